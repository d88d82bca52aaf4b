import Derived.Test.YtklnfhjgbmfilaaFrL
import Derived.Deep.CutBlock
/- Sums of lists of fractions: the program's and the reference's. No condition. -/
namespace Go.Proofs.Ytklnfhjgbmfilaa
open Go.RowKit
set_option linter.unusedVariables false

/-- What a call leaves as it was: all blocks below N, and block N if it was there. -/
theorem keptN_of {P : Program} {f : Nat} {args : Array Value} {w : World} {V : Value} (N : Nat) (h : Calls P f args w fun e w' => e = .returned V ∧ Below w.heap.size w w') (hN : N ≤ w.heap.size) :
    Calls P f args w fun e w' => e = .returned V ∧ Hid (Below w.heap.size w w') ∧
      (∀ b o, b < N → w'.cell? ⟨b, o, none⟩ = w.cell? ⟨b, o, none⟩) ∧ (N < w.heap.size → ∀ o, w'.cell? ⟨N, o, none⟩ = w.cell? ⟨N, o, none⟩) ∧ (N < w.heap.size → ∀ o, w'.frozen? ⟨N, o, none⟩ = w.frozen? ⟨N, o, none⟩) ∧ N ≤ w'.heap.size := by
  refine h.mono ?_
  rintro e w' ⟨rfl, e4⟩
  exact ⟨rfl, Lib.hid e4, fun b o h => e4.cell (p := ⟨b, o, none⟩) (Nat.lt_of_lt_of_le h hN), fun h o => e4.cell (p := ⟨N, o, none⟩) h, fun h o => e4.frozen (p := ⟨N, o, none⟩) h, Nat.le_trans hN e4.size⟩
theorem C2.two {w : World} {b : Nat} {x y : Value} (h : C2 w b x y) (u v : Value) : C2 ((w.setCell ⟨b, 0, none⟩ u).setCell ⟨b, 1, none⟩ v) b u v := (h.set0 u).set1 v
theorem C2.other2 {w : World} {b g : Nat} {x y : Value} (h : C2 w b x y) (hne : g ≠ b) (u v : Value) : C2 ((w.setCell ⟨g, 0, none⟩ u).setCell ⟨g, 1, none⟩ v) b x y := (h.other hne u).other hne v
theorem below_two {w w' : World} {B g : Nat} (h : Below B w w') (hg : B ≤ g) (u v : Value) : Below B w ((w'.setCell ⟨g, 0, none⟩ u).setCell ⟨g, 1, none⟩ v) := (h.setCell (p := ⟨g, 0, none⟩) hg _).setCell (p := ⟨g, 1, none⟩) hg _
set_option maxHeartbeats 1600000 in
theorem addFractions_any (p q b c : Int) (w : World) (h1 : vF p b = true) (h2 : vF q c = true) :
    Calls Try.prog 108 #[.agg #[.int .i64 p, .int .i64 b], .agg #[.int .i64 q, .int .i64 c]] w fun e w' => e = .returned (fracV (mkRat p b.toNat + mkRat q c.toNat)) ∧ Below w.heap.size w w' := by
  obtain ⟨⟨hb, hb2⟩, hp, hg1⟩ := vF_iff.1 h1
  obtain ⟨⟨hc, hc2⟩, hq, hg2⟩ := vF_iff.1 h2
  obtain ⟨B, rfl⟩ := Int.eq_ofNat_of_zero_le (show 0 ≤ b by omega)
  obtain ⟨C, rfl⟩ := Int.eq_ofNat_of_zero_le (show 0 ≤ c by omega)
  simp only [Int.toNat_natCast] at hg1 hg2 ⊢
  have H := Lib.hid (fun w => combinedPlus_of p q B C w (by omega) (by omega) (by omega) (by omega) (by omega) (by omega) hg1 hg2 (fun g cap w c0 c1 c2 c3 => by
    have hx : IsInts w (some ⟨g, 0, none⟩) (2 * 2) [p, (B : Int), q, (C : Int)] := ⟨rfl, fun j hj => ⟨g, 0, rfl, by
      rcases (show j = 0 ∨ j = 1 ∨ j = 2 ∨ j = 3 by omega) with rfl | rfl | rfl | rfl
      · exact c0
      · exact c1
      · exact c2
      · exact c3⟩⟩
    have := areFractions_any (some ⟨g, 0, none⟩) 2 cap _ w (by omega) hx
    rw [show allVF [p, (B : Int), q, (C : Int)] 2 = true by
      refine allB_of fun k hk => ?_
      rcases (show k = 0 ∨ k = 1 by omega) with rfl | rfl
      · exact h1
      · exact h2] at this
    exact this))
  obtain ⟨R, hR⟩ : ∃ R, mkRat p B + mkRat q C = R := ⟨_, rfl⟩
  rw [hR] at H ⊢
  obtain ⟨p', q', b', hform⟩ : ∃ p q b, fracV R = .tuple #[.agg #[.int .i64 p, .int .i64 q], .bool b] := by unfold fracV; split <;> exact ⟨_, _, _, rfl⟩
  rw [hform] at H ⊢
  clear hR hform h1 h2 hb hb2 hc hc2 hp hq hg1 hg2
  obtain ⟨t0, t1, t2⟩ := three_boxes w (.cells #[.int .i64 p, .int .i64 (B : Nat)] 33) (.cells #[.int .i64 q, .int .i64 (C : Nat)] 33) (.cells #[.int .i64 0, .int .i64 0] 33)
  have HA0 : Below w.heap.size w (((w.alloc (.cells #[.int .i64 p, .int .i64 (B : Nat)] 33)).alloc (.cells #[.int .i64 q, .int .i64 (C : Nat)] 33)).alloc (.cells #[.int .i64 0, .int .i64 0] 33)) := (((Below.refl _ w).alloc (Nat.le_refl _) _).alloc (by simp) _).alloc (by simp only [alloc_size]; omega) _
  have H0 := Lib.hid (And.intro (C2.of_heap t2) HA0)
  clear t0 t1 t2 HA0
  go_enter Try.func108, Try.ntmps108
  go_wp2_with fail
  refine (H.out _).mono ?_
  rintro e w1 ⟨rfl, hb1⟩
  have H1 := Lib.hid (And.intro (bthen H0.out.2 hb1) (H0.out.1.all hb1))
  obtain ⟨g0, g1, g2, g3, g4⟩ := H1.out.2
  clear hb1 H0
  go_wp2_with fail
  refine bodyPost_ret (v := .tuple #[.agg #[.int .i64 p', .int .i64 q'], .bool b']) (by simp [results, Try.results108, go_sem, *]) rfl ⟨rfl, ?_⟩
  exact below_two H1.out.1 (by omega) _ _
/-- A sum of fractions on the way: block b4 holds it, the first block the result to be. -/
structure SfI (w : World) (b4 : Nat) (r : Rat) (wr : World) : Prop where
  c2 : C2 wr w.heap.size (.int .i64 0) (.int .i64 0)
  c4 : C2 wr b4 (.int .i64 r.num) (.int .i64 (r.den : Nat))
  lt : w.heap.size < b4
  bel : Below w.heap.size w wr
theorem SfI.all {w wr wx : World} {b4 : Nat} {r : Rat} (h : SfI w b4 r wr) (hb : Below wr.heap.size wr wx) : SfI w b4 r wx := ⟨h.c2.all hb, h.c4.all hb, h.lt, bthen h.bel hb⟩
theorem SfI.put {w wr : World} {b4 : Nat} {r r' : Rat} (h : SfI w b4 r wr) : SfI w b4 r' ((wr.setCell ⟨b4, 0, none⟩ (.int .i64 r'.num)).setCell ⟨b4, 1, none⟩ (.int .i64 (r'.den : Nat))) :=
  ⟨h.c2.other2 (by have := h.lt; omega) _ _, h.c4.two _ _, h.lt, below_two h.bel (by have := h.lt; omega) _ _⟩
theorem vF_fit {r : Rat} (h : fitR r = true) : vF r.num (r.den : Int) = true := by
  obtain ⟨h1, h2, h3, h4⟩ := fit_parts h
  exact vF_iff.2 ⟨⟨by omega, by omega⟩, ⟨by omega, by omega⟩, by simpa using h4⟩
set_option maxRecDepth 20000 in
set_option maxHeartbeats 3200000 in
theorem sumFractions_any (a : Option Addr) (n cap : Nat) (fs : List Int) (w : World) (hb : n ≤ 1048576) (hx : IsInts w a (n * 2) fs) :
    Calls Try.prog 57 #[.slice a n cap] w fun e w' => e = .returned (sumV fs n) ∧ Below w.heap.size w w' := by
  have hA : Below w.heap.size w (w.alloc (.cells #[.int .i64 0, .int .i64 0] 33)) := (Below.refl _ w).alloc (Nat.le_refl _) _
  have hnw := C2.new w 33 (.int .i64 0) (.int .i64 0)
  have HA := Lib.hid (And.intro hA (And.intro hnw (hx.below hA)))
  have HX := Lib.hid hx
  clear hA hnw hx
  by_cases h64 : n ≤ 64
  · have HF := Lib.hid (areFractions_any a n cap fs _ hb HA.out.2.2)
    obtain ⟨v, hv⟩ : ∃ v, allVF fs n = v := ⟨_, rfl⟩
    rw [hv] at HF
    cases v with
    | false =>
      have HV := Lib.hid (show sumV fs n = zeroF by unfold sumV; rw [hv, Bool.and_false]; rfl)
      clear hv
      go_enter Try.func57, Try.ntmps57
      go_wp2_with fail
      refine HF.out.mono ?_
      rintro e w1 ⟨rfl, hb1⟩
      have H1 := Lib.hid (And.intro (bthen HA.out.1 hb1) (HA.out.2.1.all hb1))
      obtain ⟨g0, g1, g2, g3, g4⟩ := H1.out.2
      clear hb1
      go_wp2_with fail
      refine bodyPost_ret (v := .tuple #[.agg #[.int .i64 0, .int .i64 0], .bool false]) (by simp [results, Try.results57, go_sem, *]) rfl ⟨by rw [HV.out]; rfl, ?_⟩
      exact below_two H1.out.1 (Nat.le_refl _) _ _
    | true =>
      have HV := Lib.hid (And.intro (show sumV fs n = sumFV fs n by unfold sumV; rw [hv, decide_eq_true h64]; rfl) hv)
      clear hv
      go_enter Try.func57, Try.ntmps57
      go_wp2_with fail
      refine HF.out.mono ?_
      rintro e w1 ⟨rfl, hb1⟩
      have H1 := Lib.hid (And.intro (bthen HA.out.1 hb1) (HA.out.2.1.all hb1))
      have hlt1 : w.heap.size < w1.heap.size := H1.out.2.lt
      clear hb1 HA HF
      go_wp2_with fail
      have hb3 : Below w1.heap.size w1 (w1.alloc (.cells #[.int .i64 0, .int .i64 1] 33)) := (Below.refl _ w1).alloc (Nat.le_refl _) _
      have hn3 := C2.new w1 33 (.int .i64 0) (.int .i64 1)
      obtain ⟨w3, hw3⟩ : ∃ w', w1.alloc (.cells #[.int .i64 0, .int .i64 1] 33) = w' := ⟨_, rfl⟩
      rw [hw3] at hb3 hn3 ⊢
      obtain ⟨b4, hb4⟩ : ∃ b, w1.heap.size = b := ⟨_, rfl⟩
      rw [hb4] at hn3 hlt1 ⊢
      have H3 := Lib.hid (show SfI w b4 (sumR fs 0) w3 from ⟨H1.out.2.all hb3, hn3, hlt1, bthen H1.out.1 hb3⟩)
      clear hb3 hn3 hw3 hb4 H1
      go_loopw [20, 5] (fun i o wr => ∃ k : Nat, k ≤ n ∧ i = .int .i64 (k : Nat) ∧ o = .bool true ∧ Hid (SfI w b4 (sumR fs k) wr ∧ ∀ j, j < k → fitR (sumR fs (j + 1)) = true)) (fun i _ _ => n - (intOf i).toNat)
      case atStart => exact ⟨0, Nat.zero_le _, rfl, rfl, Lib.hid ⟨H3.out, fun j hj => by omega⟩⟩
      case round =>
        clear H3
        obtain ⟨k, hk, rfl, rfl, HS⟩ := hrel
        obtain ⟨z0, z1, z2, z3, z4⟩ := HS.out.1.c4
        obtain ⟨y0, y1, y2, y3, y4⟩ := HS.out.1.c2
        by_cases hlt : k < n
        · obtain ⟨b, off, rfl, c1, c2⟩ := fr_at (HX.out.below HS.out.1.bel) hlt
          have hfk : fitR (sumR fs k) = true := by
            cases k with
            | zero => exact fitR_zero
            | succ k => exact HS.out.2 k (by omega)
          have hkl : (k:Int) < (n:Int) := by omega
          have hok := allB_at HV.out.2 hlt
          have HC := Lib.hid (fun w => addFractions_any (sumR fs k).num (frN fs k) ((sumR fs k).den : Int) (frD fs k) w (vF_fit hfk) hok)
          rw [Int.toNat_natCast, mk_self, show sumR fs k + mkRat (frN fs k) (frD fs k).toNat = sumR fs (k + 1) from rfl] at HC
          obtain ⟨x, hxx⟩ : ∃ x, frN fs k = x := ⟨_, rfl⟩
          obtain ⟨y, hyy⟩ : ∃ y, frD fs k = y := ⟨_, rfl⟩
          rw [hxx, hyy] at HC
          rw [hxx] at c1
          rw [hyy] at c2
          clear hxx hyy hfk hok
          cases hfit : fitR (sumR fs (k + 1)) with
          | false =>
            have HZ := Lib.hid (show sumFV fs n = zeroF from sumFV_no hlt hfit)
            rw [fracV_no hfit] at HC
            clear hfit
            go_wp2_with fail
            have hbb : Below wr.heap.size wr (wr.alloc (.cells #[.int .i64 x, .int .i64 y] 33)) := (Below.refl _ wr).alloc (Nat.le_refl _) _
            have HB := Lib.hid hbb
            clear hbb
            refine (HC.out _).mono ?_
            rintro e w5 ⟨rfl, hb5⟩
            have H5 := Lib.hid ((HS.out.1.all HB.out).all hb5)
            clear hb5 z0 z1 z2 z3 z4 y0 y1 y2 y3 y4 c1 c2
            obtain ⟨z0, z1, z2, z3, z4⟩ := H5.out.c4
            obtain ⟨y0, y1, y2, y3, y4⟩ := (H5.out.c2.other2 (by have := H5.out.lt; omega : b4 ≠ w.heap.size) (.int .i64 0) (.int .i64 0))
            go_wp2_with fail
            refine bodyPost_ret (v := .tuple #[.agg #[.int .i64 0, .int .i64 0], .bool false]) (by simp [results, Try.results57, go_sem, *]) rfl ⟨by rw [HV.out.1, HZ.out]; rfl, ?_⟩
            exact below_two (below_two H5.out.bel (by have := H5.out.lt; omega) _ _) (Nat.le_refl _) _ _
          | true =>
            rw [fracV_yes hfit] at HC
            have HZ := Lib.hid hfit
            clear hfit
            go_wp2_with fail
            have hbb : Below wr.heap.size wr (wr.alloc (.cells #[.int .i64 x, .int .i64 y] 33)) := (Below.refl _ wr).alloc (Nat.le_refl _) _
            have HB := Lib.hid hbb
            clear hbb
            refine (HC.out _).mono ?_
            rintro e w5 ⟨rfl, hb5⟩
            have H5 := Lib.hid ((HS.out.1.all HB.out).all hb5)
            clear hb5 z0 z1 z2 z3 z4 y0 y1 y2 y3 y4 c1 c2
            obtain ⟨z0, z1, z2, z3, z4⟩ := H5.out.c4
            go_wp2_with fail
            go_roundw
            case rel => exact ⟨k + 1, by omega, by go_num, rfl, Lib.hid ⟨H5.out.put, fun j hj => by
              rcases Nat.lt_or_ge j k with h | h
              · exact HS.out.2 j h
              · obtain rfl : j = k := by omega
                exact HZ.out⟩⟩
            case measure => simp [intOf]; omega
        · obtain rfl : k = n := by omega
          have hfk : fitR (sumR fs k) = true := by
            cases k with
            | zero => exact fitR_zero
            | succ k => exact HS.out.2 k (by omega)
          have HZ := Lib.hid (show sumFV fs k = _ from (sumFV_yes HS.out.2).trans (fracV_yes hfk))
          clear hfk
          go_wp2_with fail
          refine bodyPost_ret (v := .tuple #[.agg #[.int .i64 (sumR fs k).num, .int .i64 ((sumR fs k).den : Nat)], .bool true]) (by simp [results, Try.results57, go_sem, *]) rfl ⟨by rw [HV.out.1, HZ.out], ?_⟩
          exact below_two HS.out.1.bel (Nat.le_refl _) _ _
  · have HV := Lib.hid (show sumV fs n = zeroF by unfold sumV; rw [decide_eq_false h64]; rfl)
    have h64i : (64 : Int) < (n : Int) := by omega
    obtain ⟨g0, g1, g2, g3, g4⟩ := HA.out.2.1
    go_enter Try.func57, Try.ntmps57
    go_wp2_with fail
    refine bodyPost_ret (v := .tuple #[.agg #[.int .i64 0, .int .i64 0], .bool false]) (by simp [results, Try.results57, go_sem, *]) rfl ⟨by rw [HV.out]; rfl, ?_⟩
    first | exact HA.out.1 | exact below_two HA.out.1 (Nat.le_refl _) _ _
end Go.Proofs.Ytklnfhjgbmfilaa

import Derived.Test.YtpineiocjaajnaaShA
import Derived.Test.YtpineiocjaajnaaVecW
/- The shortest list that has been found: offers. Conditions: few and small numbers. -/
namespace Go.Proofs.Ytpineiocjaajnaa
open Go.RowKit
set_option linter.unusedVariables false

/-- The block of two cells. -/
structure B2 (w : World) (b : Nat) (x y : Value) : Prop where
  c0 : w.cell? ⟨b, 0, none⟩ = some x
  c1 : w.cell? ⟨b, 1, none⟩ = some y
  f0 : w.frozen? ⟨b, 0, none⟩ = false
  f1 : w.frozen? ⟨b, 1, none⟩ = false
  lt : b < w.heap.size
theorem B2.of_same {w w' : World} {b : Nat} {x y : Value} (h : B2 w b x y) (he : w'.heap[b]? = w.heap[b]?) : B2 w' b x y := by
  have hs : w'.heap[b]? = w.heap[b]? := he
  have hl := h.lt
  obtain ⟨c0, c1, f0, f1, _⟩ := h
  refine ⟨?_, ?_, ?_, ?_, ?_⟩
  · simpa only [World.cell?, hs] using c0
  · simpa only [World.cell?, hs] using c1
  · simpa only [World.frozen?, hs] using f0
  · simpa only [World.frozen?, hs] using f1
  · rw [Array.getElem?_eq_getElem hl] at hs
    exact (Array.getElem?_eq_some_iff.1 hs).1
theorem B2.all {w w' : World} {b : Nat} {x y : Value} (h : B2 w b x y) (hb : Below w.heap.size w w') : B2 w' b x y := h.of_same (hb.block b h.lt)
theorem B2.new (w : World) (t : Nat) (x y : Value) : B2 (w.alloc (.cells #[x, y] t (0, 0))) w.heap.size x y := by
  have h := heap_at_new w (.cells #[x, y] t (0, 0))
  refine ⟨?_, ?_, ?_, ?_, by simp⟩
  · simp only [World.cell?, h]; rfl
  · simp only [World.cell?, h]; rfl
  · simp only [World.frozen?, h]; rfl
  · simp only [World.frozen?, h]; rfl
theorem B2.two {w : World} {b : Nat} {x y : Value} (h : B2 w b x y) (u v : Value) : B2 ((w.setCell ⟨b, 0, none⟩ u).setCell ⟨b, 1, none⟩ v) b u v := by
  have h1 : B2 (w.setCell ⟨b, 0, none⟩ u) b u y :=
    ⟨World.cell?_setCell_same _ _ _ h.c0, by rw [World.cell?_setCell_other _ _ _ _ (by simp)]; exact h.c1, by rw [World.frozen?_setCell]; exact h.f0, by rw [World.frozen?_setCell]; exact h.f1, by rw [World.size_setCell]; exact h.lt⟩
  exact ⟨by rw [World.cell?_setCell_other _ _ _ _ (by simp)]; exact h1.c0, World.cell?_setCell_same _ _ _ h1.c1, by rw [World.frozen?_setCell]; exact h1.f0, by rw [World.frozen?_setCell]; exact h1.f1, by rw [World.size_setCell]; exact h1.lt⟩
/-- All is as it was but for one block. -/
def Gx (w w' : World) (b : Nat) : Prop := w.grownBy w' (some b)
theorem Gx.below {w w' : World} {b : Nat} (h : Below w.heap.size w w') : Gx w w' b := by
  obtain ⟨h1, h2, h3, h4, h5⟩ := h
  exact ⟨h1, h2, h3, h4, fun k hk _ => h5 k hk⟩
theorem Gx.trans {a b c : World} {x : Nat} (h : Gx a b x) (k : Gx b c x) : Gx a c x := grownBy_trans h k
theorem Gx.refl (w : World) (x : Nat) : Gx w w x := Gx.below (Below.refl _ _)
theorem Gx.set (w : World) (b o : Nat) (u : Value) : Gx w (w.setCell ⟨b, o, none⟩ u) b := grownBy_setCell w ⟨b, o, none⟩ u
theorem Gx.out {w w' : World} {B b : Nat} (h : Gx w w' b) (hB : B ≤ w.heap.size) (hb : B ≤ b) : Below B w w' := by
  obtain ⟨h1, h2, h3, h4, h5⟩ := h
  exact ⟨h1, h2, h3, h4, fun k hk => h5 k (by omega) (fun e => by injection e; omega)⟩
theorem IsInts.gx {w w' : World} {g off n x : Nat} {zs : List Int} (h : IsInts w (some ⟨g, off, none⟩) n zs) (hg : Gx w w' x) (hne : g ≠ x) : IsInts w' (some ⟨g, off, none⟩) n zs := by
  refine ⟨h.1, fun j hj => ?_⟩
  obtain ⟨b, o, e, hc⟩ := h.2 j hj
  refine ⟨b, o, e, ?_⟩
  simp only [Option.some.injEq, Addr.mk.injEq] at e
  obtain ⟨rfl, rfl, _⟩ := e
  have hl := World.block_lt_of_cell? w _ hc
  have hs := hg.block g hl (fun e => by injection e; omega)
  simp only [World.cell?, hs]
  exact hc
theorem own_setS {w : World} {B T sz : Nat} {v : Value} {n : Nat} {xs : List Value} (h : w.ownsRow B T sz v n xs) {b : Nat} (hb : b < B) (o : Nat) (u : Value) : (w.setCell ⟨b, o, none⟩ u).ownsRow B T sz v n xs := by
  refine ⟨h.1, ?_⟩
  rcases h.2 with ⟨e, h0⟩ | ⟨g, c, cur, e, hB, ho, hl, hc⟩
  · exact Or.inl ⟨e, h0⟩
  · refine Or.inr ⟨g, c, cur, e, hB, ?_, hl, hc⟩
    rw [← ho]
    exact (grownBy_setCell w ⟨b, o, none⟩ u).block g (lt_of_heap ho) (fun e => by simp only [Option.some.injEq] at e; omega)
/-- The best list that has been found, if there is one, in its block. -/
def SlO (w : World) (B bx D : Nat) : Option (List Int) → Prop
  | none => B2 w bx (.slice none 0 0) (.int .i64 0)
  | some c => ∃ g cap, B2 w bx (.slice (some ⟨g, 0, none⟩) D cap) (.int .i64 (sqL c)) ∧ w.ownsRow B 2 1 (.slice (some ⟨g, 0, none⟩) D cap) D (c.map (Value.int .i64))
theorem SlO.all {w w' : World} {B bx D : Nat} {o : Option (List Int)} (h : SlO w B bx D o) (hb : Below w.heap.size w w') : SlO w' B bx D o := by
  cases o with
  | none => exact B2.all h hb
  | some c =>
    obtain ⟨g, cap, h1, h2⟩ := h
    exact ⟨g, cap, h1.all hb, own_below h2 hb⟩
theorem SlO.lt {w : World} {B bx D : Nat} {o : Option (List Int)} (h : SlO w B bx D o) : bx < w.heap.size := by
  cases o with
  | none => exact B2.lt h
  | some c => obtain ⟨g, cap, h1, h2⟩ := h; exact h1.lt
theorem SlO.sum {w : World} {B bx D : Nat} {c : List Int} (h : SlO w B bx D (some c)) : w.cell? ⟨bx, 1, none⟩ = some (.int .i64 (sqL c)) := by
  obtain ⟨g, cap, h1, h2⟩ := h; exact h1.c1
/-- What an offer leaves. -/
def RetOf (w : World) (B bx D : Nat) (o : Option (List Int)) (e : Ending) (w' : World) : Prop := e = .returned (.tuple #[]) ∧ SlO w' B bx D o ∧ Gx w w' bx
theorem own_first {w : World} {B n : Nat} {v : Value} {xs : List Value} (h : w.ownsRow B 2 1 v n xs) (h0 : 0 < n) : ∃ g c, v = .slice (some ⟨g, 0, none⟩) n c := by
  rcases h.2 with ⟨e, h1⟩ | ⟨g, c, cur, e, _⟩
  · omega
  · exact ⟨g, c, e⟩
set_option maxRecDepth 100000 in
set_option maxHeartbeats 1600000 in
/-- The list is taken. -/
theorem offer_any (B bx D : Nat) (o : Option (List Int)) (g off cap : Nat) (v : List Int) (w : World) (hB : B ≤ w.heap.size) (hs : SlO w B bx D o) (hv : IsInts w (some ⟨g, off, none⟩) D v) (hsm : SmL v) (ho : ∀ c, o = some c → SmL c ∧ c.length = D) (hD : 1 ≤ D) (hD4 : D ≤ 4) :
    Calls Try.prog 31 #[.pointer (some ⟨bx, 0, none⟩), .slice (some ⟨g, off, none⟩) D cap] w (RetOf w B bx D (ofO o v)) := by
  have hvl := hv.length
  have HV := Lib.hid hv
  have HSM := Lib.hid hsm
  have HS := Lib.hid hs
  have HO := Lib.hid ho
  have HIX := Lib.hid (indexNZ_any (some ⟨g, off, none⟩) D cap v w hv (by omega))
  have HCL := Lib.hid (cloneL_any g off D cap v w (by omega) hv)
  have hfull : v.take D = v := List.take_of_length_le (by omega)
  have HFULL := Lib.hid hfull
  clear hv hsm hs ho hfull
  go_enter Try.func31, Try.ntmps31
  go_wp2_with fail
  go_loopw [10, 4] (fun i s wr => ∃ k : Nat, k ≤ D ∧ i = .int .i64 (k : Nat) ∧ s = .int .i64 (sqL (v.take k)) ∧ wr = w) (fun i _ _ => D - (intOf i).toNat)
  case atStart => exact ⟨0, Nat.zero_le _, rfl, rfl, rfl⟩
  case round =>
    obtain ⟨k, hk, rfl, rfl, rfl⟩ := hrel
    by_cases hlt : k < D
    · have hki : (k : Int) < (D : Int) := by omega
      have hk0 : (0 : Int) ≤ (k : Int) := by omega
      obtain ⟨b', off', e5, cc⟩ := HV.out.at hlt
      simp only [Option.some.injEq, Addr.mk.injEq] at e5
      obtain ⟨rfl, rfl, _⟩ := e5
      have h1 := sqL_take (xs := v) (k := k) (by omega)
      have h2 := sqL_bd HSM.out k (by omega)
      have h3 := sq_small (HSM.out.2 k)
      have h4 := sqL_nonneg (v.take k)
      obtain ⟨x, hx⟩ : ∃ x, v.getD k 0 = x := ⟨_, rfl⟩
      rw [hx] at cc h1 h3
      obtain ⟨s0, hs0⟩ : ∃ s, sqL (v.take k) = s := ⟨_, rfl⟩
      rw [hs0] at h1 h2 h4 ⊢
      obtain ⟨q, hq⟩ : ∃ q, x * x = q := ⟨_, rfl⟩
      rw [hq] at h1 h3
      have hqw : IntKind.i64.wrap q = q := IntWalk.i64_in _ (by omega)
      have hsw : IntKind.i64.wrap (s0 + q) = s0 + q := IntWalk.i64_in _ (by omega)
      have H1 := Lib.hid h1
      clear hx hs0 h1
      go_wp2_with fail
      go_roundw
      case rel => exact ⟨k + 1, by omega, by go_num, by rw [H1.out], trivial⟩
      case measure => simp [intOf] <;> omega
    · obtain rfl : k = D := by omega
      have hki : ¬ (k : Int) < (k : Int) := by omega
      rw [HFULL.out]
      have hsb := sqL_bd HSM.out k (by omega)
      rw [HFULL.out] at hsb
      have hs0 := sqL_nonneg v
      go_wp2_with fail
      refine HIX.out.mono ?_
      rintro e w' ⟨r, rfl, hr, rfl⟩
      cases hr with
      | none h =>
        have HF := Lib.hid (show ofO o v = o by unfold ofO; rw [posL_none h]; rfl)
        clear h
        go_wp2_with fail
        go_end0
        exact ⟨rfl, by rw [HF.out]; exact HS.out, Gx.refl _ _⟩
      | some i hi h0 h =>
        have hp := posL_some hi h0 h
        obtain ⟨b', off', e5, cc⟩ := HV.out.at (show i < k by omega)
        simp only [Option.some.injEq, Addr.mk.injEq] at e5
        obtain ⟨rfl, rfl, _⟩ := e5
        have hi0 : (0 : Int) ≤ (i : Int) := by omega
        have hi1 : (i : Int) < (k : Int) := by omega
        have hi2 : ¬ (i : Int) < 0 := by omega
        obtain ⟨x, hx⟩ : ∃ x, v.getD i 0 = x := ⟨_, rfl⟩
        rw [hx] at cc hp h0
        clear h hx
        by_cases hneg : x < 0
        · have HF := Lib.hid (show ofO o v = o by unfold ofO; rw [hp, decide_eq_false (by omega)]; rfl)
          clear hp h0
          go_wp2_with fail
          go_end0
          exact ⟨rfl, by rw [HF.out]; exact HS.out, Gx.refl _ _⟩
        · have hpos : posL v = true := by rw [hp, decide_eq_true (by omega)]
          have HP := Lib.hid hpos
          clear hp h0 hpos
          cases o with
          | none =>
            have HBX := Lib.hid (show B2 _ bx (.slice none 0 0) (.int .i64 0) from HS.out)
            obtain ⟨y0, y1, y2, y3, y4⟩ := HBX.out
            have heq := Lib.run_eql_slice_nil (P := Try.prog) w' 24 2 none 0 0 0 0 Try.underlying24
            have HF := Lib.hid (show ofO none v = some v by unfold ofO; rw [HP.out]; rfl)
            go_wp2_with fail
            refine HCL.out.mono ?_
            rintro e w2 ⟨v2, rfl, hg⟩
            obtain ⟨g2, c2, rfl⟩ := own_first hg.1 (by omega)
            rw [hvl] at hg ⊢
            have HB2 := Lib.hid (HBX.out.all hg.2)
            have HG := Lib.hid hg
            have HLT := Lib.hid HBX.out.lt
            clear hg y0 y1 y2 y3 y4
            obtain ⟨y0, y1, y2, y3, y4⟩ := HB2.out
            go_wp2_with fail
            go_end0
            refine ⟨rfl, ?_, ?_⟩
            · rw [HF.out]
              exact ⟨g2, c2, HB2.out.two _ _, own_mono (own_setS (own_setS HG.out.1 HLT.out 0 _) HLT.out 1 _) hB⟩
            · exact (Gx.below HG.out.2).trans ((Gx.set _ bx 0 _).trans (Gx.set _ bx 1 _))
          | some c =>
            obtain ⟨hcs, hcl⟩ := HO.out c rfl
            obtain ⟨g1, c1, hbx, hown1⟩ := HS.out
            have HBX := Lib.hid hbx
            have HI1 := Lib.hid (IsInts.of_own hown1)
            have heq := Lib.run_eql_slice_nil (P := Try.prog) w' 24 2 (some ⟨g1, 0, none⟩) k c1 0 0 Try.underlying24
            obtain ⟨y0, y1, y2, y3, y4⟩ := hbx
            have HF0 := Lib.hid (show ofO (some c) v = some (if btB v c then v else c) by unfold ofO; rw [HP.out]; rfl)
            obtain ⟨sv, hsv⟩ : ∃ s, sqL v = s := ⟨_, rfl⟩
            obtain ⟨sc, hsc⟩ : ∃ s, sqL c = s := ⟨_, rfl⟩
            have hbt : btB v c = (decide (sv < sc) || (decide (sv = sc) && lxB v c)) := by unfold btB; rw [hsv, hsc]
            rw [hsc] at y1 HBX
            rw [hsv]
            have HSV := Lib.hid (And.intro hsv hsc)
            clear hown1 hcs
            by_cases hlt : sv < sc
            · have HF := Lib.hid (show ofO (some c) v = some v by rw [HF0.out, hbt, decide_eq_true hlt]; rfl)
              have hsvv : sqL v = sv := hsv
              clear hbt hsv hsc
              go_wp2_with fail
              refine HCL.out.mono ?_
              rintro e w2 ⟨v2, rfl, hg⟩
              obtain ⟨g2, c2, rfl⟩ := own_first hg.1 (by omega)
              rw [hvl] at hg ⊢
              have HB2 := Lib.hid (HBX.out.all hg.2)
              have HG := Lib.hid hg
              have HLT := Lib.hid HBX.out.lt
              clear hg y0 y1 y2 y3 y4
              obtain ⟨y0, y1, y2, y3, y4⟩ := HB2.out
              go_wp2_with fail
              go_end0
              refine ⟨rfl, ?_, ?_⟩
              · rw [HF.out]
                exact ⟨g2, c2, by rw [HSV.out.1]; exact HB2.out.two _ _, own_mono (own_setS (own_setS HG.out.1 HLT.out 0 _) HLT.out 1 _) hB⟩
              · exact (Gx.below HG.out.2).trans ((Gx.set _ bx 0 _).trans (Gx.set _ bx 1 _))
            · by_cases heqs : sv = sc
              · subst heqs
                cases hlx : lxB v c with
                | true =>
                  have HCM := Lib.hid (compareL_any (some ⟨g, off, none⟩) (some ⟨g1, 0, none⟩) k cap c1 v c w' HV.out HI1.out (by omega))
                  have hbt2 : btB v c = true := by rw [hbt, decide_eq_false hlt, decide_eq_true rfl, hlx]; rfl
                  rw [hlx] at HCM
                  have HF := Lib.hid (show ofO (some c) v = some v by rw [HF0.out, hbt2]; rfl)
                  clear hbt hbt2 hlx hsv hsc
                  go_wp2_with fail
                  refine HCM.out.mono ?_
                  rintro e w3 ⟨r, rfl, hr, rfl⟩
                  have hr0 : r < 0 := by simpa using hr
                  clear hr
                  go_wp2_with fail
                  refine HCL.out.mono ?_
                  rintro e w2 ⟨v2, rfl, hg⟩
                  obtain ⟨g2, c2, rfl⟩ := own_first hg.1 (by omega)
                  rw [hvl] at hg ⊢
                  have HB2 := Lib.hid (HBX.out.all hg.2)
                  have HG := Lib.hid hg
                  have HLT := Lib.hid HBX.out.lt
                  clear hg y0 y1 y2 y3 y4
                  obtain ⟨y0, y1, y2, y3, y4⟩ := HB2.out
                  go_wp2_with fail
                  go_end0
                  refine ⟨rfl, ?_, ?_⟩
                  · rw [HF.out]
                    exact ⟨g2, c2, by rw [HSV.out.1]; exact HB2.out.two _ _, own_mono (own_setS (own_setS HG.out.1 HLT.out 0 _) HLT.out 1 _) hB⟩
                  · exact (Gx.below HG.out.2).trans ((Gx.set _ bx 0 _).trans (Gx.set _ bx 1 _))
                | false =>
                  have HCM := Lib.hid (compareL_any (some ⟨g, off, none⟩) (some ⟨g1, 0, none⟩) k cap c1 v c w' HV.out HI1.out (by omega))
                  have hbt2 : btB v c = false := by rw [hbt, decide_eq_false hlt, decide_eq_true rfl, hlx]; rfl
                  rw [hlx] at HCM
                  have HF := Lib.hid (show ofO (some c) v = some c by rw [HF0.out, hbt2]; rfl)
                  clear hbt hbt2 hlx hsv hsc
                  go_wp2_with fail
                  refine HCM.out.mono ?_
                  rintro e w3 ⟨r, rfl, hr, rfl⟩
                  have hr0 : ¬ r < 0 := by simpa using hr
                  clear hr
                  go_wp2_with fail
                  go_end0
                  exact ⟨rfl, by rw [HF.out]; exact HS.out, Gx.refl _ _⟩
              · have HF := Lib.hid (show ofO (some c) v = some c by rw [HF0.out, hbt, decide_eq_false hlt, decide_eq_false heqs]; rfl)
                clear hbt hsv hsc
                go_wp2_with fail
                go_end0
                exact ⟨rfl, by rw [HF.out]; exact HS.out, Gx.refl _ _⟩
end Go.Proofs.Ytpineiocjaajnaa

import Derived.Test.YtklnfhjgbmfilaaLawIJ
/- When a law is valid: the reference's test. No condition. -/
namespace Go.Proofs.Ytklnfhjgbmfilaa
open Go.RowKit
set_option linter.unusedVariables false

/-- What the reference asks at each place of a law. -/
def goodAt (vs fs : List Int) (k : Nat) : Bool := inR (vs.getD k 0) (-1000000000000000) 1000000000000000 && (decide (0 < frN fs k) && (decide (k = 0) || decide (vs.getD (k - 1) 0 < vs.getD k 0)))
theorem good_all (vs fs : List Int) : (List.range vs.length).all (goodAt vs fs) = (allR vs (-1000000000000000) 1000000000000000 && (incr vs && allPos fs vs.length)) := by
  rw [Bool.eq_iff_iff]
  simp only [List.all_eq_true, List.mem_range, goodAt, Bool.and_eq_true, allR, incr, allPos, decide_eq_true_eq, Bool.or_eq_true]
  constructor
  · intro h
    refine ⟨fun x hx => ?_, fun k hk => ?_, fun k hk => (h k hk).2.1⟩
    · obtain ⟨j, hj, rfl⟩ := List.getElem_of_mem hx
      have := (h j hj).1
      rwa [getD_eq _ _ hj] at this
    · rcases (h (k + 1) (by omega)).2.2 with h | h
      · omega
      · simpa using h
  · rintro ⟨h1, h2, h3⟩ k hk
    refine ⟨?_, h3 k hk, ?_⟩
    · rw [getD_eq _ _ hk]; exact h1 _ (List.getElem_mem hk)
    · cases k with
      | zero => left; rfl
      | succ k => right; simpa using h2 k (by omega)
theorem lawOk_good (vs fs : List Int) (n m : Nat) (hl : vs.length = n) : lawOk vs fs n m = (inR n 1 64 && (decide (m = n) && (allVF fs n && ((List.range n).all (goodAt vs fs) && (sumOk fs n && decide (sumR fs n = 1)))))) := by
  subst hl
  rw [good_all]
  unfold lawOk
  cases inR (vs.length : Int) 1 64 <;> cases decide (m = vs.length) <;> cases allVF fs vs.length <;> cases allR vs (-1000000000000000) 1000000000000000 <;> cases incr vs <;> cases allPos fs vs.length <;> rfl
/-- What the reference's test reads: the law behind a pointer, and both lists. -/
structure LvS (w : World) (b : Nat) (V C : Value) (a1 a2 : Option Addr) (n m : Nat) (vs fs : List Int) (wr : World) : Prop where
  bx : C2 wr b V C
  val : IsInts wr a1 n vs
  cha : IsInts wr a2 (m * 2) fs
  bel : Below w.heap.size w wr
theorem LvS.all {w wr wx : World} {b : Nat} {V C : Value} {a1 a2 : Option Addr} {n m : Nat} {vs fs : List Int} (h : LvS w b V C a1 a2 n m vs fs wr) (hb : Below wr.heap.size wr wx) : LvS w b V C a1 a2 n m vs fs wx := ⟨h.bx.all hb, h.val.below hb, h.cha.below hb, bthen h.bel hb⟩
set_option maxRecDepth 20000 in
set_option maxHeartbeats 6400000 in
theorem l05Is_any (b : Nat) (a1 a2 : Option Addr) (n m c1 c2 : Nat) (vs fs : List Int) (w : World) (hn : n ≤ 1048576) (hm : m ≤ 1048576) (h0 : C2 w b (.slice a1 n c1) (.slice a2 m c2)) (h1 : IsInts w a1 n vs) (h2 : IsInts w a2 (m * 2) fs) :
    Calls Try.prog 61 #[.pointer (some ⟨b, 0, none⟩)] w (Ret w (.bool (lawOk vs fs n m))) := by
  have hl := h1.1
  have HG := Lib.hid (lawOk_good vs fs n m hl)
  have H0 := Lib.hid (show LvS w b (.slice a1 n c1) (.slice a2 m c2) a1 a2 n m vs fs w from ⟨h0, h1, h2, Below.refl _ _⟩)
  have HF := Lib.hid (fun w h => l01FAll_any a2 m c2 fs w hm h)
  have HSU := Lib.hid (fun w h => l01FSum_any a2 m c2 fs w hm h)
  clear h0 h1 h2 hl
  obtain ⟨z0, z1, z2, z3, z4⟩ := H0.out.bx
  by_cases g1 : n < 1
  · have HV := Lib.hid (show lawOk vs fs n m = false by rw [HG.out, show inR (n : Int) 1 64 = false by unfold inR; rw [decide_eq_false (by omega)]; rfl]; rfl)
    have hi : (n : Int) < 1 := by omega
    go_enter Try.func61, Try.ntmps61
    go_wp2
    go_ret
    exact ⟨by rw [HV.out]; rfl, Below.refl _ _⟩
  by_cases g2 : 64 < n
  · have HV := Lib.hid (show lawOk vs fs n m = false by rw [HG.out, show inR (n : Int) 1 64 = false by unfold inR; rw [decide_eq_false (show ¬ (n : Int) ≤ 64 by omega), Bool.and_false]]; rfl)
    have hi : ¬ (n : Int) < 1 := by omega
    have hi2 : (64 : Int) < (n : Int) := by omega
    go_enter Try.func61, Try.ntmps61
    go_wp2
    go_ret
    exact ⟨by rw [HV.out]; rfl, Below.refl _ _⟩
  have HI := Lib.hid (show inR (n : Int) 1 64 = true by unfold inR; rw [decide_eq_true (by omega), decide_eq_true (by omega)]; rfl)
  have hi : ¬ (n : Int) < 1 := by omega
  have hi2 : ¬ (64 : Int) < (n : Int) := by omega
  by_cases g3 : m = n
  · subst g3
    obtain ⟨v, hv⟩ : ∃ v, allVF fs m = v := ⟨_, rfl⟩
    rw [hv] at HF
    cases v with
    | false =>
      have HV := Lib.hid (show lawOk vs fs m m = false by rw [HG.out, HI.out, decide_eq_true rfl, hv]; rfl)
      clear hv
      go_enter Try.func61, Try.ntmps61
      go_wp2_with fail
      refine (HF.out _ H0.out.cha).mono ?_
      rintro e w1 ⟨rfl, hb⟩
      have H1 := Lib.hid (H0.out.all hb)
      clear hb z0 z1 z2 z3 z4
      go_wp2
      go_ret
      exact ⟨by rw [HV.out]; rfl, H1.out.bel⟩
    | true =>
      have HL := Lib.hid (show lawOk vs fs m m = ((List.range m).all (goodAt vs fs) && (sumOk fs m && decide (sumR fs m = 1))) by rw [HG.out, HI.out, decide_eq_true rfl, hv]; rfl)
      have HS6 := Lib.hid (fun w h => HSU.out w h hv)
      clear hv
      go_enter Try.func61, Try.ntmps61
      go_wp2_with fail
      refine (HF.out _ H0.out.cha).mono ?_
      rintro e w1 ⟨rfl, hb⟩
      have H1 := Lib.hid (H0.out.all hb)
      clear hb z0 z1 z2 z3 z4 H0 HF HSU HG
      go_wp2_with fail
      go_loopw [4] (fun i wr => ∃ k : Nat, k ≤ m ∧ i = .int .i64 (k : Nat) ∧ Hid (LvS w b (.slice a1 m c1) (.slice a2 m c2) a1 a2 m m vs fs wr ∧ ∀ j, j < k → goodAt vs fs j = true)) (fun i _ => m - (intOf i).toNat)
      case atStart => exact ⟨0, Nat.zero_le _, rfl, Lib.hid ⟨H1.out, fun j hj => by omega⟩⟩
      case round =>
        clear H1
        obtain ⟨k, hk, rfl, HS⟩ := hrel
        obtain ⟨z0, z1, z2, z3, z4⟩ := HS.out.1.bx
        by_cases hlt : k < m
        · have hk0 : (0:Int) ≤ (k:Int) := by omega
          have hkl : (k:Int) < (m:Int) := by omega
          have hR := fun w => l00InQ (vs.getD k 0) (-1000000000000000) 1000000000000000 w
          obtain ⟨v1, hv1⟩ : ∃ v, inR (vs.getD k 0) (-1000000000000000) 1000000000000000 = v := ⟨_, rfl⟩
          rw [hv1] at hR
          obtain ⟨g, off, rfl, c1'⟩ := HS.out.1.val.at hlt
          obtain ⟨x, hx⟩ : ∃ x, vs.getD k 0 = x := ⟨_, rfl⟩
          rw [hx] at c1' hR
          obtain ⟨g2', off2, rfl, d1, d2⟩ := fr_at HS.out.1.cha hlt
          obtain ⟨y, hy⟩ : ∃ y, frN fs k = y := ⟨_, rfl⟩
          rw [hy] at d1
          clear d2
          have HR := Lib.hid hR
          have HX := Lib.hid (And.intro hx (And.intro hy hv1))
          clear hR hx hy hv1
          cases v1 with
          | false =>
            have HV := Lib.hid (show lawOk vs fs m m = false by rw [HL.out, allB_no hlt (show goodAt vs fs k = false by unfold goodAt; rw [HX.out.2.2]; rfl)]; rfl)
            clear HX
            go_wp2_with fail
            go_quiet ((go_at_call 32; exact Calls.quiet_of_same (HR.out _)))
            go_wp2
            go_ret
            exact ⟨by rw [HV.out]; rfl, bthen HS.out.1.bel (drewN_below _ _)⟩
          | true =>
            by_cases hy0 : 0 < y
            · have hy1 : decide (y ≤ 0) = false := decide_eq_false (by omega)
              cases k with
              | zero =>
                have HV := Lib.hid (show goodAt vs fs 0 = true by unfold goodAt; rw [HX.out.2.2, HX.out.2.1, decide_eq_true hy0]; rfl)
                clear HX hy0
                simp only [Nat.add_zero, Nat.zero_mul] at c1' d1
                go_wp2_with fail
                go_quiet ((go_at_call 32; exact Calls.quiet_of_same (HR.out _)))
                go_wp2
                go_roundw
                case rel => exact ⟨1, by omega, by go_num, Lib.hid ⟨HS.out.1.all (drewN_below _ _), fun j hj => by (have e0 : j = 0 := (by omega)); rw [e0]; exact HV.out⟩⟩
                case measure => simp [intOf]; omega
              | succ k =>
                obtain ⟨g', off', e1, c2'⟩ := HS.out.1.val.at (show k < m by omega)
                simp only [Option.some.injEq, Addr.mk.injEq] at e1
                obtain ⟨rfl, rfl, _⟩ := e1
                obtain ⟨u, hu⟩ : ∃ u, vs.getD k 0 = u := ⟨_, rfl⟩
                rw [hu] at c2'
                have hs : IntKind.i64.wrap (k:Int) = (k:Int) := IntWalk.i64_in _ (by omega)
                have hkk0 : (0:Int) ≤ (k:Int) := by omega
                have hkkl : (k:Int) < (m:Int) := by omega
                have hkl2 : (k:Int) + 1 < (m:Int) := by omega
                have hkp : decide ((0:Int) < (k:Int) + 1) = true := decide_eq_true (by omega)
                have hk10 : (0:Int) ≤ (k:Int) + 1 := by omega
                have hs3 : ((k:Int) + 1).toNat = k + 1 := by omega
                have HU := Lib.hid hu
                clear hu
                by_cases hux : u < x
                · have hxu : decide (x ≤ u) = false := decide_eq_false (by omega)
                  have HV := Lib.hid (show goodAt vs fs (k + 1) = true by unfold goodAt; rw [HX.out.2.2, HX.out.2.1, decide_eq_true hy0, Nat.add_sub_cancel, HU.out, HX.out.1, decide_eq_true hux, Bool.or_true]; rfl)
                  clear HX hy0 hux HU
                  go_wp2_with fail
                  go_quiet ((go_at_call 32; exact Calls.quiet_of_same (HR.out _)))
                  go_wp2
                  go_roundw
                  case rel => exact ⟨k + 1 + 1, by omega, by go_num, Lib.hid ⟨HS.out.1.all (drewN_below _ _), fun j hj => by
                    rcases Nat.lt_or_ge j (k + 1) with h | h
                    · exact HS.out.2 j h
                    · obtain rfl : j = k + 1 := by omega
                      exact HV.out⟩⟩
                  case measure => simp [intOf]; omega
                · have hxu : decide (x ≤ u) = true := decide_eq_true (by omega)
                  have HV := Lib.hid (show lawOk vs fs m m = false by rw [HL.out, allB_no hlt (show goodAt vs fs (k + 1) = false by unfold goodAt; rw [HX.out.2.2, HX.out.2.1, decide_eq_true hy0, Nat.add_sub_cancel, HU.out, HX.out.1, decide_eq_false hux, decide_eq_false (show ¬ k + 1 = 0 by omega)]; rfl)]; rfl)
                  clear HX hy0 hux HU
                  go_wp2_with fail
                  go_quiet ((go_at_call 32; exact Calls.quiet_of_same (HR.out _)))
                  go_wp2
                  go_ret
                  exact ⟨by rw [HV.out]; rfl, bthen HS.out.1.bel (drewN_below _ _)⟩
            · have hy1 : decide (y ≤ 0) = true := decide_eq_true (by omega)
              have HV := Lib.hid (show lawOk vs fs m m = false by rw [HL.out, allB_no hlt (show goodAt vs fs k = false by unfold goodAt; rw [HX.out.2.2, HX.out.2.1, decide_eq_false hy0]; rfl)]; rfl)
              clear HX hy0
              go_wp2_with fail
              go_quiet ((go_at_call 32; exact Calls.quiet_of_same (HR.out _)))
              go_wp2
              go_ret
              exact ⟨by rw [HV.out]; rfl, bthen HS.out.1.bel (drewN_below _ _)⟩
        · obtain rfl : k = m := by omega
          have HL2 := Lib.hid (show lawOk vs fs k k = (sumOk fs k && decide (sumR fs k = 1)) by rw [HL.out, allB_of HS.out.2]; rfl)
          cases hs : sumOk fs k with
          | false =>
            have HV := Lib.hid (show lawOk vs fs k k = false by rw [HL2.out, hs]; rfl)
            rw [show sumFV fs k = zeroF by unfold sumFV; rw [hs]; rfl] at HS6
            unfold zeroF at HS6
            clear hs HL HL2
            go_wp2_with fail
            refine (HS6.out _ HS.out.1.cha).mono ?_
            rintro e w8 ⟨rfl, hb⟩
            have H8 := Lib.hid (HS.out.1.all hb)
            clear hb z0 z1 z2 z3 z4
            go_wp2
            go_ret
            exact ⟨by rw [HV.out]; rfl, bthen H8.out.bel ((Below.refl _ w8).alloc (Nat.le_refl _) _)⟩
          | true =>
            have hfit := sumOk_le hs (Nat.le_refl k)
            rw [show sumFV fs k = .tuple #[.agg #[.int .i64 (sumR fs k).num, .int .i64 ((sumR fs k).den : Nat)], .bool true] by unfold sumFV; rw [hs, if_pos rfl, fracV_yes hfit]] at HS6
            have HV := Lib.hid (show lawOk vs fs k k = (decide ((sumR fs k).num = 1) && decide ((sumR fs k).den = 1)) by rw [HL2.out, hs, Bool.true_and, ← Bool.decide_and]; exact decide_eq_decide.2 (rat_one_iff _))
            obtain ⟨p, hp⟩ : ∃ p, (sumR fs k).num = p := ⟨_, rfl⟩
            obtain ⟨q, hq⟩ : ∃ q, (sumR fs k).den = q := ⟨_, rfl⟩
            rw [hp, hq] at HS6 HV
            clear hs hfit hp hq HL HL2
            have HV2 : lawOk vs fs k k = true ∧ p = 1 ∧ (q : Int) = 1 ∨ lawOk vs fs k k = false ∧ p = 1 ∧ ¬ (q : Int) = 1 ∨ lawOk vs fs k k = false ∧ ¬ p = 1 := by
              rw [HV.out]
              by_cases e1 : p = 1
              · by_cases e2 : q = 1
                · exact Or.inl ⟨by rw [decide_eq_true e1, decide_eq_true e2]; rfl, e1, by omega⟩
                · exact Or.inr (Or.inl ⟨by rw [decide_eq_false e2, Bool.and_false], e1, by omega⟩)
              · exact Or.inr (Or.inr ⟨by rw [decide_eq_false e1, Bool.false_and], e1⟩)
            clear HV
            rcases HV2 with ⟨hv, e1, e2⟩ | ⟨hv, e1, e2⟩ | ⟨hv, e1⟩
            all_goals
              have HV := Lib.hid hv
              clear hv
              go_wp2_with fail
              refine (HS6.out _ HS.out.1.cha).mono ?_
              rintro e w8 ⟨rfl, hb⟩
              have H8 := Lib.hid (HS.out.1.all hb)
              clear hb z0 z1 z2 z3 z4
              go_wp2
              go_ret
              exact ⟨by rw [HV.out]; rfl, bthen H8.out.bel ((Below.refl _ w8).alloc (Nat.le_refl _) _)⟩
  · have HV := Lib.hid (show lawOk vs fs n m = false by rw [HG.out, HI.out, decide_eq_false g3]; rfl)
    have hne : ((m : Int) != (n : Int)) = true := by simp; omega
    have hne2 : ((m : Int) == (n : Int)) = false := by rw [beq_eq_false_iff_ne]; omega
    have hne3 : (m == n) = false := by rw [beq_eq_false_iff_ne]; exact g3
    go_enter Try.func61, Try.ntmps61
    go_wp2
    go_ret
    exact ⟨by rw [HV.out]; rfl, Below.refl _ _⟩
end Go.Proofs.Ytklnfhjgbmfilaa

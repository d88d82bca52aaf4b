import Derived.Test.YtklnfhjgbmfilaaFrN
/- When a law is valid: the program's test. No condition. -/
namespace Go.Proofs.Ytklnfhjgbmfilaa
open Go.RowKit
set_option linter.unusedVariables false

set_option maxHeartbeats 800000 in
theorem isIncreasing_any (a : Option Addr) (n cap : Nat) (vs : List Int) (w : World) (hb : n ≤ 1048576) (hx : IsInts w a n vs) :
    Calls Try.prog 53 #[.slice a n cap] w (Ret w (.bool (incr vs))) := by
  have HX := Lib.hid hx
  have HL := Lib.hid hx.1
  clear hx
  go_enter Try.func53, Try.ntmps53
  go_wp2
  go_loopw [3] (fun i wr => ∃ k : Nat, (k + 1 ≤ n ∨ k = 0) ∧ i = .int .i64 ((k + 1 : Nat) : Int) ∧ Hid (∀ j, j < k → decide (vs.getD j 0 < vs.getD (j + 1) 0) = true) ∧ Hid (Below w.heap.size w wr)) (fun i _ => n + 1 - (intOf i).toNat)
  case atStart => exact ⟨0, Or.inr rfl, rfl, Lib.hid (fun j hj => by omega), Lib.hid (Below.refl _ _)⟩
  case round =>
    obtain ⟨k, hk, rfl, Hall, HB⟩ := hrel
    by_cases hlt : k + 1 < n
    · have hx := HX.out.below HB.out
      obtain ⟨b, off, rfl, c1⟩ := hx.at (show k < n by omega)
      obtain ⟨b1, off1, e1, c2⟩ := hx.at hlt
      simp only [Option.some.injEq, Addr.mk.injEq] at e1
      obtain ⟨rfl, rfl, _⟩ := e1
      obtain ⟨x, hxx⟩ : ∃ x, vs.getD k 0 = x := ⟨_, rfl⟩
      obtain ⟨y, hyy⟩ : ∃ y, vs.getD (k + 1) 0 = y := ⟨_, rfl⟩
      rw [hxx] at c1
      rw [hyy] at c2
      have HE := Lib.hid (And.intro hxx hyy)
      have hk0 : (0:Int) ≤ (k:Int) := by omega
      have hkl : (k:Int) < (n:Int) := by omega
      have hkl1 : (k:Int) + 1 < (n:Int) := by omega
      have hk10 : (0:Int) ≤ (k:Int) + 1 := by omega
      have hs : IntKind.i64.wrap (k:Int) = (k:Int) := IntWalk.i64_in _ (by omega)
      have hs3 : ((k:Int) + 1).toNat = k + 1 := by omega
      clear hxx hyy hx
      by_cases hin : x < y
      · have hyx : decide (y ≤ x) = false := decide_eq_false (by omega)
        have Hin := Lib.hid hin
        clear hin
        go_wp2_with fail
        go_quiet (fail)
        go_wp2
        go_roundw
        case rel =>
          refine ⟨k + 1, Or.inl (by omega), by go_num, Lib.hid (fun j hj => ?_), Lib.hid (bthen HB.out (drewN_below _ _))⟩
          by_cases h : j = k
          · subst h; rw [HE.out.1, HE.out.2]; exact decide_eq_true Hin.out
          · exact Hall.out j (by omega)
        case measure => simp [intOf]; omega
      · have hyx : decide (y ≤ x) = true := decide_eq_true (by omega)
        have Hin := Lib.hid hin
        clear hin
        go_wp2_with fail
        go_quiet (fail)
        go_wp2
        go_ret
        refine ⟨?_, bthen HB.out (drewN_below _ _)⟩
        rw [show incr vs = false from allB_no (k := k) (by have := HL.out; omega) (by rw [HE.out.1, HE.out.2]; exact decide_eq_false (by have := Hin.out; omega))]
        try rfl
    · have hni : ¬ ((k:Int) + 1 < (n:Int)) := by omega
      go_wp2
      go_ret
      refine ⟨?_, HB.out⟩
      rw [show incr vs = true from allB_of (fun j hj => Hall.out j (by have := HL.out; omega))]
      try rfl
/-- What a test of a law reads: the law in its box, and both lists. -/
structure LvI (w : World) (V C : Value) (a1 a2 : Option Addr) (n m : Nat) (vs fs : List Int) (wr : World) : Prop where
  bx : C2 wr w.heap.size V C
  val : IsInts wr a1 n vs
  cha : IsInts wr a2 (m * 2) fs
  bel : Below w.heap.size w wr
theorem LvI.all {w wr wx : World} {V C : Value} {a1 a2 : Option Addr} {n m : Nat} {vs fs : List Int} (h : LvI w V C a1 a2 n m vs fs wr) (hb : Below wr.heap.size wr wx) : LvI w V C a1 a2 n m vs fs wx := ⟨h.bx.all hb, h.val.below hb, h.cha.below hb, bthen h.bel hb⟩
theorem LvI.start {w : World} {V C : Value} {a1 a2 : Option Addr} {n m : Nat} {vs fs : List Int} (h1 : IsInts w a1 n vs) (h2 : IsInts w a2 (m * 2) fs) : LvI w V C a1 a2 n m vs fs (w.alloc (.cells #[V, C] 43)) :=
  have hb : Below w.heap.size w (w.alloc (.cells #[V, C] 43)) := (Below.refl _ _).alloc (Nat.le_refl _) _
  ⟨C2.new w _ _ _, h1.below hb, h2.below hb, hb⟩
end Go.Proofs.Ytklnfhjgbmfilaa
/- When a law is valid: the program's test. No condition. -/
namespace Go.Proofs.Ytklnfhjgbmfilaa
open Go.RowKit
set_option linter.unusedVariables false

theorem posAny (fs : List Int) (n : Nat) : ((List.range n).any fun k => decide (frN fs k ≤ 0)) = !allPos fs n := by
  have h := any_not (fun k => decide (0 < frN fs k)) n
  unfold allPos
  rw [← h, Bool.not_not]
  have e : (fun k => decide (frN fs k ≤ 0)) = fun k => !decide (0 < frN fs k) := by
    funext k
    rw [← decide_not]
    exact decide_eq_decide.2 (by omega)
  rw [e]
set_option maxRecDepth 20000 in
set_option maxHeartbeats 6400000 in
theorem validLaw_any (a1 a2 : Option Addr) (n m c1 c2 : Nat) (vs fs : List Int) (w : World) (hn : n ≤ 1048576) (hm : m ≤ 1048576) (h1 : IsInts w a1 n vs) (h2 : IsInts w a2 (m * 2) fs) :
    Calls Try.prog 22 #[.agg #[.slice a1 n c1, .slice a2 m c2]] w (Ret w (.bool (lawOk vs fs n m))) := by
  have H0 := Lib.hid (LvI.start (V := .slice a1 n c1) (C := .slice a2 m c2) h1 h2)
  have HR := Lib.hid (fun w => inRange_any (n : Int) 1 64 w)
  have HA := Lib.hid (fun w h => allIn_any a1 n c1 vs (-1000000000000000) 1000000000000000 w (by omega) h)
  have HI := Lib.hid (fun w h => isIncreasing_any a1 n c1 vs w hn h)
  have HF := Lib.hid (fun w h => areFractions_any a2 m c2 fs w hm h)
  have HP := Lib.hid (fun w h => containsFuncF_any 56 (fun n d => decide (n ≤ 0)) (fun _ _ => by kernel_rfl) validLaw1_any a2 m c2 fs w hm h)
  rw [posAny] at HP
  have HSU := Lib.hid (fun w h => sumFractions_any a2 m c2 fs w hm h)
  clear h1 h2
  obtain ⟨v0, h1⟩ : ∃ v, inR (n : Int) 1 64 = v := ⟨_, rfl⟩
  rw [h1] at HR
  cases v0 with
  | false =>
    have HV := Lib.hid (show lawOk vs fs n m = false by unfold lawOk; rw [h1]; rfl)
    clear h1
    go_enter Try.func22, Try.ntmps22
    obtain ⟨z0, z1, z2, z3, z4⟩ := H0.out.bx
    go_wp2_with fail
    refine (length_any _ _ _ _).mono ?_
    rintro e w' ⟨rfl, rfl⟩
    go_wp2_with fail
    refine (HR.out _).mono ?_
    rintro e w' ⟨rfl, rfl⟩
    go_wp2
    go_ret
    exact ⟨by rw [HV.out]; rfl, H0.out.bel⟩
  | true =>
    by_cases h2 : m = n
    · subst h2
      obtain ⟨v2, h3⟩ : ∃ v, allR vs (-1000000000000000) 1000000000000000 = v := ⟨_, rfl⟩
      rw [h3] at HA
      cases v2 with
      | false =>
        have HV := Lib.hid (show lawOk vs fs m m = false by unfold lawOk; rw [h1, decide_eq_true rfl, h3]; rfl)
        clear h1 h3
        go_enter Try.func22, Try.ntmps22
        obtain ⟨z0, z1, z2, z3, z4⟩ := H0.out.bx
        go_wp2_with fail
        refine (length_any _ _ _ _).mono ?_
        rintro e w' ⟨rfl, rfl⟩
        go_wp2_with fail
        refine (HR.out _).mono ?_
        rintro e w' ⟨rfl, rfl⟩
        go_wp2_with fail
        refine (HA.out _ H0.out.val).mono ?_
        rintro e w1 ⟨rfl, hb⟩
        have H1 := Lib.hid (H0.out.all hb)
        clear hb z0 z1 z2 z3 z4
        obtain ⟨z0, z1, z2, z3, z4⟩ := H1.out.bx
        go_wp2
        go_ret
        exact ⟨by rw [HV.out]; rfl, H1.out.bel⟩
      | true =>
        obtain ⟨v3, h4⟩ : ∃ v, incr vs = v := ⟨_, rfl⟩
        rw [h4] at HI
        cases v3 with
        | false =>
          have HV := Lib.hid (show lawOk vs fs m m = false by unfold lawOk; rw [h1, decide_eq_true rfl, h3, h4]; rfl)
          clear h1 h3 h4
          go_enter Try.func22, Try.ntmps22
          obtain ⟨z0, z1, z2, z3, z4⟩ := H0.out.bx
          go_wp2_with fail
          refine (length_any _ _ _ _).mono ?_
          rintro e w' ⟨rfl, rfl⟩
          go_wp2_with fail
          refine (HR.out _).mono ?_
          rintro e w' ⟨rfl, rfl⟩
          go_wp2_with fail
          refine (HA.out _ H0.out.val).mono ?_
          rintro e w1 ⟨rfl, hb⟩
          have H1 := Lib.hid (H0.out.all hb)
          clear hb z0 z1 z2 z3 z4
          obtain ⟨z0, z1, z2, z3, z4⟩ := H1.out.bx
          go_wp2_with fail
          refine (HI.out _ H1.out.val).mono ?_
          rintro e w2 ⟨rfl, hb⟩
          have H2 := Lib.hid (H1.out.all hb)
          clear hb z0 z1 z2 z3 z4
          obtain ⟨z0, z1, z2, z3, z4⟩ := H2.out.bx
          go_wp2
          go_ret
          exact ⟨by rw [HV.out]; rfl, H2.out.bel⟩
        | true =>
          obtain ⟨v4, h5⟩ : ∃ v, allVF fs m = v := ⟨_, rfl⟩
          rw [h5] at HF
          cases v4 with
          | false =>
            have HV := Lib.hid (show lawOk vs fs m m = false by unfold lawOk; rw [h1, decide_eq_true rfl, h3, h4, h5]; rfl)
            clear h1 h3 h4 h5
            go_enter Try.func22, Try.ntmps22
            obtain ⟨z0, z1, z2, z3, z4⟩ := H0.out.bx
            go_wp2_with fail
            refine (length_any _ _ _ _).mono ?_
            rintro e w' ⟨rfl, rfl⟩
            go_wp2_with fail
            refine (HR.out _).mono ?_
            rintro e w' ⟨rfl, rfl⟩
            go_wp2_with fail
            refine (HA.out _ H0.out.val).mono ?_
            rintro e w1 ⟨rfl, hb⟩
            have H1 := Lib.hid (H0.out.all hb)
            clear hb z0 z1 z2 z3 z4
            obtain ⟨z0, z1, z2, z3, z4⟩ := H1.out.bx
            go_wp2_with fail
            refine (HI.out _ H1.out.val).mono ?_
            rintro e w2 ⟨rfl, hb⟩
            have H2 := Lib.hid (H1.out.all hb)
            clear hb z0 z1 z2 z3 z4
            obtain ⟨z0, z1, z2, z3, z4⟩ := H2.out.bx
            go_wp2_with fail
            refine (HF.out _ H2.out.cha).mono ?_
            rintro e w3 ⟨rfl, hb⟩
            have H3 := Lib.hid (H2.out.all hb)
            clear hb z0 z1 z2 z3 z4
            obtain ⟨z0, z1, z2, z3, z4⟩ := H3.out.bx
            go_wp2
            go_ret
            exact ⟨by rw [HV.out]; rfl, H3.out.bel⟩
          | true =>
            obtain ⟨v5, h6⟩ : ∃ v, allPos fs m = v := ⟨_, rfl⟩
            rw [h6] at HP
            cases v5 with
            | false =>
              have HV := Lib.hid (show lawOk vs fs m m = false by unfold lawOk; rw [h1, decide_eq_true rfl, h3, h4, h5, h6]; rfl)
              clear h1 h3 h4 h5 h6
              go_enter Try.func22, Try.ntmps22
              obtain ⟨z0, z1, z2, z3, z4⟩ := H0.out.bx
              go_wp2_with fail
              refine (length_any _ _ _ _).mono ?_
              rintro e w' ⟨rfl, rfl⟩
              go_wp2_with fail
              refine (HR.out _).mono ?_
              rintro e w' ⟨rfl, rfl⟩
              go_wp2_with fail
              refine (HA.out _ H0.out.val).mono ?_
              rintro e w1 ⟨rfl, hb⟩
              have H1 := Lib.hid (H0.out.all hb)
              clear hb z0 z1 z2 z3 z4
              obtain ⟨z0, z1, z2, z3, z4⟩ := H1.out.bx
              go_wp2_with fail
              refine (HI.out _ H1.out.val).mono ?_
              rintro e w2 ⟨rfl, hb⟩
              have H2 := Lib.hid (H1.out.all hb)
              clear hb z0 z1 z2 z3 z4
              obtain ⟨z0, z1, z2, z3, z4⟩ := H2.out.bx
              go_wp2_with fail
              refine (HF.out _ H2.out.cha).mono ?_
              rintro e w3 ⟨rfl, hb⟩
              have H3 := Lib.hid (H2.out.all hb)
              clear hb z0 z1 z2 z3 z4
              obtain ⟨z0, z1, z2, z3, z4⟩ := H3.out.bx
              go_wp2_with fail
              refine (HP.out _ H3.out.cha).mono ?_
              rintro e w4 ⟨rfl, hb⟩
              have H4 := Lib.hid (H3.out.all hb)
              clear hb z0 z1 z2 z3 z4
              obtain ⟨z0, z1, z2, z3, z4⟩ := H4.out.bx
              go_wp2
              go_ret
              exact ⟨by rw [HV.out]; rfl, H4.out.bel⟩
            | true =>
              have HS6 := Lib.hid (show ∀ w, IsInts w a2 (m * 2) fs → Calls Try.prog 57 #[.slice a2 m c2] w fun e w' => e = .returned (sumFV fs m) ∧ Below w.heap.size w w' from fun w h => by have := HSU.out w h; rw [show sumV fs m = sumFV fs m by unfold sumV; rw [h5, decide_eq_true (by simp only [inR, Bool.and_eq_true, decide_eq_true_eq] at h1; omega)]; rfl] at this; exact this)
              have HL := Lib.hid (show lawOk vs fs m m = (sumOk fs m && decide (sumR fs m = 1)) by unfold lawOk; rw [h1, decide_eq_true rfl, h3, h4, h5, h6]; rfl)
              cases hs : sumOk fs m with
              | false =>
                have HV := Lib.hid (show lawOk vs fs m m = false by rw [HL.out, hs]; rfl)
                rw [show sumFV fs m = zeroF by unfold sumFV; rw [hs]; rfl] at HS6
                unfold zeroF at HS6
                clear hs h1 h3 h4 h5 h6
                go_enter Try.func22, Try.ntmps22
                obtain ⟨z0, z1, z2, z3, z4⟩ := H0.out.bx
                go_wp2_with fail
                refine (length_any _ _ _ _).mono ?_
                rintro e w' ⟨rfl, rfl⟩
                go_wp2_with fail
                refine (HR.out _).mono ?_
                rintro e w' ⟨rfl, rfl⟩
                go_wp2_with fail
                refine (HA.out _ H0.out.val).mono ?_
                rintro e w1 ⟨rfl, hb⟩
                have H1 := Lib.hid (H0.out.all hb)
                clear hb z0 z1 z2 z3 z4
                obtain ⟨z0, z1, z2, z3, z4⟩ := H1.out.bx
                go_wp2_with fail
                refine (HI.out _ H1.out.val).mono ?_
                rintro e w2 ⟨rfl, hb⟩
                have H2 := Lib.hid (H1.out.all hb)
                clear hb z0 z1 z2 z3 z4
                obtain ⟨z0, z1, z2, z3, z4⟩ := H2.out.bx
                go_wp2_with fail
                refine (HF.out _ H2.out.cha).mono ?_
                rintro e w3 ⟨rfl, hb⟩
                have H3 := Lib.hid (H2.out.all hb)
                clear hb z0 z1 z2 z3 z4
                obtain ⟨z0, z1, z2, z3, z4⟩ := H3.out.bx
                go_wp2_with fail
                refine (HP.out _ H3.out.cha).mono ?_
                rintro e w4 ⟨rfl, hb⟩
                have H4 := Lib.hid (H3.out.all hb)
                clear hb z0 z1 z2 z3 z4
                obtain ⟨z0, z1, z2, z3, z4⟩ := H4.out.bx
                go_wp2_with fail
                refine (HS6.out _ H4.out.cha).mono ?_
                rintro e w8 ⟨rfl, hb⟩
                have H8 := Lib.hid (H4.out.all hb)
                clear hb z0 z1 z2 z3 z4
                go_wp2
                go_ret
                exact ⟨by rw [HV.out]; rfl, bthen H8.out.bel ((Below.refl _ w8).alloc (Nat.le_refl _) _)⟩
              | true =>
                have hfit := sumOk_le hs (Nat.le_refl m)
                rw [show sumFV fs m = .tuple #[.agg #[.int .i64 (sumR fs m).num, .int .i64 ((sumR fs m).den : Nat)], .bool true] by unfold sumFV; rw [hs, if_pos rfl, fracV_yes hfit]] at HS6
                have HV := Lib.hid (show lawOk vs fs m m = (decide ((sumR fs m).num = 1) && decide ((sumR fs m).den = 1)) by rw [HL.out, hs, Bool.true_and, ← Bool.decide_and]; exact decide_eq_decide.2 (rat_one_iff _))
                obtain ⟨p, hp⟩ : ∃ p, (sumR fs m).num = p := ⟨_, rfl⟩
                obtain ⟨q, hq⟩ : ∃ q, (sumR fs m).den = q := ⟨_, rfl⟩
                rw [hp, hq] at HS6 HV
                clear hs h1 h3 h4 h5 h6 hfit hp hq HL HSU
                have HV2 : lawOk vs fs m m = true ∧ p = 1 ∧ (q : Int) = 1 ∨ lawOk vs fs m m = false ∧ p = 1 ∧ ¬ (q : Int) = 1 ∨ lawOk vs fs m m = false ∧ ¬ p = 1 := by
                  rw [HV.out]
                  by_cases e1 : p = 1
                  · by_cases e2 : q = 1
                    · exact Or.inl ⟨by rw [decide_eq_true e1, decide_eq_true e2]; rfl, e1, by omega⟩
                    · exact Or.inr (Or.inl ⟨by rw [decide_eq_false e2, Bool.and_false], e1, by omega⟩)
                  · exact Or.inr (Or.inr ⟨by rw [decide_eq_false e1, Bool.false_and], e1⟩)
                clear HV
                rcases HV2 with ⟨hv, e1, e2⟩ | ⟨hv, e1, e2⟩ | ⟨hv, e1⟩
                all_goals
                  have HV := Lib.hid hv
                  clear hv
                  go_enter Try.func22, Try.ntmps22
                  obtain ⟨z0, z1, z2, z3, z4⟩ := H0.out.bx
                  go_wp2_with fail
                  refine (length_any _ _ _ _).mono ?_
                  rintro e w' ⟨rfl, rfl⟩
                  go_wp2_with fail
                  refine (HR.out _).mono ?_
                  rintro e w' ⟨rfl, rfl⟩
                  go_wp2_with fail
                  refine (HA.out _ H0.out.val).mono ?_
                  rintro e w1 ⟨rfl, hb⟩
                  have H1 := Lib.hid (H0.out.all hb)
                  clear hb z0 z1 z2 z3 z4
                  obtain ⟨z0, z1, z2, z3, z4⟩ := H1.out.bx
                  go_wp2_with fail
                  refine (HI.out _ H1.out.val).mono ?_
                  rintro e w2 ⟨rfl, hb⟩
                  have H2 := Lib.hid (H1.out.all hb)
                  clear hb z0 z1 z2 z3 z4
                  obtain ⟨z0, z1, z2, z3, z4⟩ := H2.out.bx
                  go_wp2_with fail
                  refine (HF.out _ H2.out.cha).mono ?_
                  rintro e w3 ⟨rfl, hb⟩
                  have H3 := Lib.hid (H2.out.all hb)
                  clear hb z0 z1 z2 z3 z4
                  obtain ⟨z0, z1, z2, z3, z4⟩ := H3.out.bx
                  go_wp2_with fail
                  refine (HP.out _ H3.out.cha).mono ?_
                  rintro e w4 ⟨rfl, hb⟩
                  have H4 := Lib.hid (H3.out.all hb)
                  clear hb z0 z1 z2 z3 z4
                  obtain ⟨z0, z1, z2, z3, z4⟩ := H4.out.bx
                  go_wp2_with fail
                  refine (HS6.out _ H4.out.cha).mono ?_
                  rintro e w8 ⟨rfl, hb⟩
                  have H8 := Lib.hid (H4.out.all hb)
                  clear hb z0 z1 z2 z3 z4
                  go_wp2
                  go_ret
                  exact ⟨by rw [HV.out]; rfl, bthen H8.out.bel ((Below.refl _ w8).alloc (Nat.le_refl _) _)⟩
    · have HV := Lib.hid (show lawOk vs fs n m = false by unfold lawOk; rw [h1, decide_eq_false h2]; rfl)
      have hne : ((m : Int) != (n : Int)) = true := by simp; omega
      have hne2 : ((m : Int) == (n : Int)) = false := by rw [beq_eq_false_iff_ne]; omega
      have hne3 : (m == n) = false := by rw [beq_eq_false_iff_ne]; exact h2
      clear h1
      go_enter Try.func22, Try.ntmps22
      obtain ⟨z0, z1, z2, z3, z4⟩ := H0.out.bx
      go_wp2_with fail
      refine (length_any _ _ _ _).mono ?_
      rintro e w' ⟨rfl, rfl⟩
      go_wp2_with fail
      refine (HR.out _).mono ?_
      rintro e w' ⟨rfl, rfl⟩
      go_wp2
      go_ret
      exact ⟨by rw [HV.out]; rfl, H0.out.bel⟩
end Go.Proofs.Ytklnfhjgbmfilaa

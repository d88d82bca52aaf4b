import Derived.Test.YtflgooogiceliaaDoorDeep
/- Fair bits of what pairs leave: the program's walk, and the law FnExactFairDeep. Condition: the text is shorter than the model's greatest length. -/
namespace Go.Proofs.YtflgooogiceliaaDoor
open Go.RowKit
set_option linter.unusedVariables false

/-- Two builders, and what else is owned. -/
def Bd2 (w0 w : World) (b1 : Nat) (xs1 : List Int) (b2 : Nat) (xs2 : List Int) (rest : List (Nat × (Obj → Prop))) : Prop := ∃ st2, (st2 = none ↔ xs2 = []) ∧ Bd w0 w b1 xs1 (bldL b2 st2 xs2 ++ rest)
theorem bd_iff {w0 w : World} {b : Nat} {xs : List Int} {rest : List (Nat × (Obj → Prop))} : Bd w0 w b xs rest ↔ ∃ st, (st = none ↔ xs = []) ∧ OwnAt w0 w (bldL b st xs ++ rest) := by
  constructor
  · rintro (⟨h0, h⟩ | ⟨h0, g, c, h⟩)
    · exact ⟨none, ⟨fun _ => h0, fun _ => rfl⟩, h⟩
    · exact ⟨some (g, c), ⟨(fun h => by cases h), fun h => absurd h h0⟩, h⟩
  · rintro ⟨st, h1, h⟩
    cases st with
    | none => exact Or.inl ⟨h1.1 rfl, h⟩
    | some p => exact Or.inr ⟨(fun e => by have := h1.2 e; cases this), p.1, p.2, h⟩
theorem Bd2.swap {w0 w : World} {b1 b2 : Nat} {xs1 xs2 : List Int} {rest : List (Nat × (Obj → Prop))} (h : Bd2 w0 w b1 xs1 b2 xs2 rest) : Bd2 w0 w b2 xs2 b1 xs1 rest := by
  obtain ⟨st2, h2, h⟩ := h
  obtain ⟨st1, h1, h⟩ := bd_iff.1 h
  refine ⟨st1, h1, bd_iff.2 ⟨st2, h2, h.1.perm ?_, h.2⟩⟩
  rw [← List.append_assoc, ← List.append_assoc]
  exact List.Perm.append_right _ List.perm_append_comm
theorem Bd2.cell {w0 w : World} {b1 b2 : Nat} {xs1 xs2 : List Int} {g c : Nat} {e : TypeId} {vs : List Value} (h : Bd2 w0 w b1 xs1 b2 xs2 [(g, rowO e c vs)]) (j : Nat) (hj : j < vs.length) : w.cell? ⟨g, j, none⟩ = vs[j]? := by
  obtain ⟨st2, h2, h⟩ := h
  obtain ⟨st1, h1, h⟩ := bd_iff.1 h
  cases st1 with
  | none =>
    cases st2 with
    | none => exact h.1.cellAt 2 (g := g) (e := e) (cap := c) rfl j hj
    | some p => exact h.1.cellAt 3 (g := g) (e := e) (cap := c) rfl j hj
  | some q =>
    cases st2 with
    | none => exact h.1.cellAt 3 (g := g) (e := e) (cap := c) rfl j hj
    | some p => exact h.1.cellAt 4 (g := g) (e := e) (cap := c) rfl j hj
theorem Bd2.drewN {w0 w : World} {b1 b2 : Nat} {xs1 xs2 : List Int} {rest : List (Nat × (Obj → Prop))} (h : Bd2 w0 w b1 xs1 b2 xs2 rest) (n : Nat) : Bd2 w0 (w.drewN n) b1 xs1 b2 xs2 rest := by
  obtain ⟨st2, h2, h⟩ := h
  exact ⟨st2, h2, h.drewN n⟩
theorem Bd2.ret {w0 w w' : World} {b1 b2 : Nat} {xs1 xs2 : List Int} {rest : List (Nat × (Obj → Prop))} (h : Bd2 w0 w b1 xs1 b2 xs2 rest) (hb : Below w.heap.size w w') : Bd2 w0 w' b1 xs1 b2 xs2 rest := by
  obtain ⟨st2, h2, h⟩ := h
  exact ⟨st2, h2, h.ret hb⟩
theorem write2_any (b1 b2 : Nat) (xs1 xs2 : List Int) (rest : List (Nat × (Obj → Prop))) (x : Int) (w0 w : World) (h : Bd2 w0 w b1 xs1 b2 xs2 rest) (hn : xs1.length < 1099511627776) :
    Calls Tryd.prog 70 #[.pointer (some ⟨b1, 0, none⟩), .int .u8 x] w fun e w' => e = .returned .nilIface ∧ Bd2 w0 w' b1 (xs1 ++ [x]) b2 xs2 rest := by
  obtain ⟨st2, h2, h⟩ := h
  exact (writeByte_any b1 xs1 _ x w0 w h hn).mono fun e w' ⟨he, hb⟩ => ⟨he, st2, h2, hb⟩
theorem text2_any (b1 b2 : Nat) (xs1 xs2 : List Int) (rest : List (Nat × (Obj → Prop))) (w0 w : World) (h : Bd2 w0 w b1 xs1 b2 xs2 rest) (hx : numOk xs1) (hn : xs1.length < 1099511627776) :
    Calls Tryd.prog 71 #[.pointer (some ⟨b1, 0, none⟩)] w fun e w' => e = .returned (.string (strOfNums xs1)) ∧ Bd w0 w' b2 xs2 rest := by
  obtain ⟨st2, h2, h⟩ := h
  exact (builderText_any b1 xs1 _ w0 w h hx hn).mono fun e w' ⟨he, hb⟩ => ⟨he, bd_iff.2 ⟨st2, h2, hb⟩⟩
set_option maxRecDepth 20000 in
set_option maxHeartbeats 3200000 in
theorem fairDeep_any : ∀ (d : Nat) (s : ByteArray) (w : World), s.size ≤ 400 → d ≤ 8 → Calls Tryd.prog 86 #[.string s, .int .i64 (d : Nat)] w fun e w' => e = .returned (.string (ffD d s)) ∧ Below w.heap.size w w'
  | 0, s, w, hs, hd => by
    go_enter Tryd.func86, Tryd.ntmps86
    go_wp2
    go_ret
    exact ⟨rfl, Below.refl _ _⟩
  | d + 1, s, w, hs, hd => by
    have HP := Lib.hid (fun w => pairs_any s w hs)
    have HC := Lib.hid (fun w => fairPairs_any s w hs)
    have H1 := Lib.hid (fun w => fairDeep_any d (strOfNums (dfX s)) w (by rw [dfX_size]; omega) (by omega))
    have H2 := Lib.hid (fun w => fairDeep_any d (strOfNums (eqX s)) w (by have := eqX_size s; omega) (by omega))
    have hff : ffD (d + 1) s = (strOfNums (frX s) ++ ffD d (strOfNums (dfX s))) ++ ffD d (strOfNums (eqX s)) := rfl
    have hdx : dfX s = dfP (frD s) (s.size / 2) := rfl
    have hex : eqX s = shF (fun j => !frD s j) (frB s) (s.size / 2) := rfl
    have hok : ∀ m, numOk (shF (fun j => !frD s j) (frB s) m) := shF_ok (fun m => byI_ok s (2 * m))
    have hln := shF_len (fun j => !frD s j) (frB s)
    have hdl := dfP_len (frD s)
    have hdk := dfP_ok (frD s)
    have hds := dfP_succ (frD s)
    have hfd : ∀ j, frD s j = (byI s (2 * j) != byI s (2 * j + 1)) := fun j => rfl
    have hfb : ∀ j, frB s j = byI s (2 * j) := fun j => rfl
    have hat : ∀ j, 2 * j + 2 ≤ s.size → ∃ P : ByteArray, prS s j = P ∧ P.size = 2 ∧ ∃ h0 h1, (((P[0]'h0).toNat : Nat) : Int) = byI s (2 * j) ∧ (((P[1]'h1).toNat : Nat) : Int) = byI s (2 * j + 1) := fun j h => prS_all h
    have hva : ∀ j, j < s.size / 2 → (prV s (s.size / 2))[j]? = some (.string (prS s j)) := fun j h => prV_at s _ j h
    have hvl := prV_len s (s.size / 2)
    obtain ⟨F, hF⟩ : ∃ F, ffD (d + 1) s = F := ⟨_, rfl⟩
    rw [hF] at hff ⊢
    have sa : (strOfNums (frX s)).size ≤ 400 := by have := frX_size s; omega
    have sb := ffD_le (d := d) (s := strOfNums (dfX s)) (by omega) (by rw [dfX_size]; omega)
    have sc := ffD_le (d := d) (s := strOfNums (eqX s)) (by omega) (by have := eqX_size s; omega)
    obtain ⟨a, ha⟩ : ∃ a, strOfNums (frX s) = a := ⟨_, rfl⟩
    obtain ⟨X, hX⟩ : ∃ X, ffD d (strOfNums (dfX s)) = X := ⟨_, rfl⟩
    obtain ⟨Y, hY⟩ : ∃ Y, ffD d (strOfNums (eqX s)) = Y := ⟨_, rfl⟩
    rw [ha] at hff HC sa
    rw [hX] at H1 hff sb
    rw [hY] at H2 hff sc
    have sab := cat_size sa sb
    obtain ⟨f, hf⟩ : ∃ f, frD s = f := ⟨_, rfl⟩
    obtain ⟨bb, hbb⟩ : ∃ bb, frB s = bb := ⟨_, rfl⟩
    obtain ⟨V, hV⟩ : ∃ V, prV s (s.size / 2) = V := ⟨_, rfl⟩
    obtain ⟨n, hn⟩ : ∃ n, s.size / 2 = n := ⟨_, rfl⟩
    rw [hdx] at H1
    rw [hex] at H2
    rw [hf, hn] at H1
    rw [hf, hbb, hn] at H2
    rw [hf, hbb] at hok hln
    rw [hf] at hdl hdk hds hfd
    rw [hbb] at hfb
    rw [hV] at HP hva hvl
    rw [hn] at hva hvl
    have hn2 : 2 * n ≤ s.size := by omega
    have hn4 : n ≤ 200 := by omega
    have HF := Lib.hid hff
    have HH := Lib.hid (And.intro hfd (And.intro hfb (And.intro hat (And.intro hva hvl))))
    have HL := Lib.hid (And.intro hok (And.intro hln (And.intro hdl (And.intro hdk hds))))
    have hd0 : (0:Int) ≤ (d:Int) := by omega
    have hd8 : (d:Int) ≤ 7 := by omega
    have hne : ((d:Int) + 1 == 0) = false := by rw [beq_eq_false_iff_ne]; omega
    have hsub : (d:Int) + 1 - 1 = (d:Int) := by omega
    have HB : Hid (Bd2 w ((w.alloc (.cells #[.pointer none, .slice none 0 0] 71)).alloc (.cells #[.pointer none, .slice none 0 0] 71)) (w.heap.size + 1) [] w.heap.size [] []) := Lib.hid (by
      have a1 := (OwnAt.start w).new (o := .cells #[.pointer none, .slice none 0 0] 71) (φ := bldO (.pointer none) (.slice none 0 0)) rfl
      have a2 := a1.new (o := .cells #[.pointer none, .slice none 0 0] 71) (φ := bldO (.pointer none) (.slice none 0 0)) rfl
      rw [alloc_size] at a2
      exact ⟨none, ⟨fun _ => rfl, fun _ => rfl⟩, Or.inl ⟨rfl, a2⟩⟩)
    clear hff hdx hex hok hln hdl hdk hds hfd hfb hat hva hvl hF ha hX hY hf hbb hV hn
    obtain ⟨bq, hbq⟩ : ∃ bq, w.heap.size = bq := ⟨_, rfl⟩
    rw [hbq] at HB
    have HBQ := Lib.hid hbq
    clear hbq
    go_enter Tryd.func86, Tryd.ntmps86
    go_wp2_with fail
    refine (HP.out _).mono ?_
    rintro e w1 ⟨gp, cp, rfl, hO⟩
    rw [HH.out.2.2.2.2, HBQ.out]
    have HD : Hid (Bd2 w w1 (bq + 1) [] bq [] [(gp, rowO 9 cp V)]) := Lib.hid (by
      obtain ⟨st2, h2, h⟩ := HB.out
      obtain ⟨st1, h1, hq⟩ := bd_iff.1 h
      refine ⟨st2, h2, bd_iff.2 ⟨st1, h1, ?_⟩⟩
      refine ⟨(hq.1.join hO.2 hq.2.size hO.1).perm ?_, bthen hq.2 hO.2⟩
      rw [List.append_nil]
      exact List.perm_append_comm.trans (List.Perm.of_eq (List.append_assoc _ _ _)))
    clear hO HB HP
    go_wp2
    go_loopw [14] (fun i wr => ∃ m : Nat, m ≤ n ∧ i = .int .i64 (m : Nat) ∧ Hid (Bd2 w wr bq (dfP f m) (bq + 1) (shF (fun j => !f j) bb m) [(gp, rowO 9 cp V)])) (fun i _ => n - (intOf i).toNat)
    case atStart => exact ⟨0, Nat.zero_le _, rfl, Lib.hid HD.out.swap⟩
    case round =>
      clear HD
      obtain ⟨m, hm, rfl, HD⟩ := hrel
      by_cases hlt : m < n
      · have hm0 : (0:Int) ≤ (m:Int) := by omega
        have hmi : (m:Int) < (n:Int) := by omega
        have hc := HD.out.cell m (by rw [HH.out.2.2.2.2]; exact hlt)
        rw [HH.out.2.2.2.1 m hlt] at hc
        obtain ⟨P, hP, hPs, p0, p1, e0, e1⟩ := HH.out.2.2.1 m (by omega)
        rw [hP] at hc
        have hst : shF (fun j => !f j) bb (m + 1) = if !f m then shF (fun j => !f j) bb m ++ [bb m] else shF (fun j => !f j) bb m := rfl
        have hds := HL.out.2.2.2.2 m
        have hfd := HH.out.1 m
        have hfb := HH.out.2.1 m
        obtain ⟨x, hx⟩ : ∃ x, byI s (2 * m) = x := ⟨_, rfl⟩
        obtain ⟨y, hy⟩ : ∃ y, byI s (2 * m + 1) = y := ⟨_, rfl⟩
        rw [hx] at e0 hfd hfb
        rw [hy] at e1 hfd
        rw [hfb] at hst
        have hpi0 : (0:Int) < (P.size:Int) := by omega
        have hpi1 : (1:Int) < (P.size:Int) := by omega
        have hln := HL.out.2.1 m
        have hdl := HL.out.2.2.1 m
        obtain ⟨x1, hx1⟩ : ∃ x1, dfP f m = x1 := ⟨_, rfl⟩
        obtain ⟨x2, hx2⟩ : ∃ x2, shF (fun j => !f j) bb m = x2 := ⟨_, rfl⟩
        rw [hx1] at HD hds hdl
        rw [hx2] at HD hst hln
        cases hfm : f m with
        | true =>
          rw [hfm] at hst hds hfd
          have HW := Lib.hid (fun q => write2_any bq (bq + 1) x1 x2 _ 49 w (wr.drewN q) (HD.out.drewN q) (by omega))
          have HST := Lib.hid (And.intro hst hds)
          have hne2 : (x == y) = false := by have := hfd.symm; simpa using this
          clear hst hds hx hy hx1 hx2 hfm hfb hP hfd hdl
          go_wp2_with fail
          go_quiet (fail)
          go_wp2_with fail
          refine (HW.out _).mono ?_
          rintro e w5 ⟨rfl, hd5⟩
          have HN : Hid (Bd2 w w5 bq (dfP f (m + 1)) (bq + 1) (shF (fun j => !f j) bb (m + 1)) [(gp, rowO 9 cp V)]) := Lib.hid (by rw [HST.out.1, HST.out.2]; exact hd5)
          clear hd5
          go_wp2
          go_roundw
          case rel => exact ⟨m + 1, by omega, by go_num, HN⟩
          case measure => simp [intOf]; omega
        | false =>
          rw [hfm] at hst hds hfd
          have HW := Lib.hid (fun q => write2_any bq (bq + 1) x1 x2 _ 48 w (wr.drewN q) (HD.out.drewN q) (by omega))
          have HST := Lib.hid (And.intro hst hds)
          have hne2 : (x == y) = true := by have := hfd.symm; simpa using this
          clear hst hds hx hy hx1 hx2 hfm hfb hP hfd hdl
          go_wp2_with fail
          go_quiet (fail)
          go_wp2_with fail
          refine (HW.out _).mono ?_
          rintro e w5 ⟨rfl, hd5⟩
          have HW2 := Lib.hid (write2_any (bq + 1) bq x2 (x1 ++ [48]) _ x w w5 hd5.swap (by omega))
          clear hd5
          go_wp2_with fail
          refine HW2.out.mono ?_
          rintro e w6 ⟨rfl, hd6⟩
          have HN : Hid (Bd2 w w6 bq (dfP f (m + 1)) (bq + 1) (shF (fun j => !f j) bb (m + 1)) [(gp, rowO 9 cp V)]) := Lib.hid (by rw [HST.out.1, HST.out.2]; exact hd6.swap)
          clear hd6
          go_wp2
          go_roundw
          case rel => exact ⟨m + 1, by omega, by go_num, HN⟩
          case measure => simp [intOf]; omega
      · obtain rfl : m = n := by omega
        have hdl := HL.out.2.2.1 m
        have hln := HL.out.2.1 m
        go_wp2_with fail
        refine (HC.out _).mono ?_
        rintro e w3 ⟨rfl, hb3⟩
        have HT1 := Lib.hid (text2_any bq (bq + 1) _ _ _ w w3 (HD.out.ret hb3) (HL.out.2.2.2.1 m) (by omega))
        clear hb3 HD
        go_wp2_with fail
        refine HT1.out.mono ?_
        rintro e w4 ⟨rfl, hd4⟩
        have HD4 := Lib.hid hd4
        clear hd4
        go_wp2_with fail
        refine (H1.out _).mono ?_
        rintro e w5 ⟨rfl, hb5⟩
        have HT2 := Lib.hid (builderText_any (bq + 1) _ _ w w5 (HD4.out.ret hb5) (HL.out.1 m) (by omega))
        clear hb5
        go_wp2_with fail
        refine HT2.out.mono ?_
        rintro e w6 ⟨rfl, hO6⟩
        have HO6 := Lib.hid hO6.2
        clear hO6
        go_wp2_with fail
        refine (H2.out _).mono ?_
        rintro e w7 ⟨rfl, hb7⟩
        have Hb7 := Lib.hid (bthen HO6.out hb7)
        clear hb7
        go_wp2
        go_ret
        exact ⟨by rw [HF.out]; rfl, Hb7.out⟩
def fdOk (s : ByteArray) (d : Int) : Bool := isB s && inR d 0 8
def fdV (s : ByteArray) (d : Int) : ByteArray := if fdOk s d then ffD d.toNat s else ⟨#[]⟩
def RetFd (w : World) (s : ByteArray) (d : Int) (e : Ending) (w' : World) : Prop := e = .returned (.tuple #[.string (fdV s d), .bool (fdOk s d)]) ∧ Below w.heap.size w w'
theorem retFd_no {w w' : World} {s : ByteArray} {d : Int} (h : fdOk s d = false) (hb : Below w.heap.size w w') : RetFd w s d (.returned (.tuple #[.string ⟨#[]⟩, .bool false])) w' := ⟨by unfold fdV; rw [h]; rfl, hb⟩
theorem implFairDeep_any (s : ByteArray) (d : Int) (w : World) (hs : s.size ≤ maxLen) : Calls Tryd.prog 50 #[.string s, .int .i64 d] w (RetFd w s d) := by
  cases h : isB s with
  | false =>
    have HV := Lib.hid (And.intro h (show fdOk s d = false by unfold fdOk; rw [h]; rfl))
    clear h
    go_enter Tryd.func50, Tryd.ntmps50
    go_wp2_with fail
    refine (isBits_any s _ hs).mono ?_
    rintro e w1 ⟨rfl, hb1⟩
    rw [HV.out.1]
    go_wp2_with fail
    go_ret2
    exact retFd_no HV.out.2 hb1
  | true =>
    cases hr : inR d 0 8 with
    | false =>
      have HV := Lib.hid (And.intro h (And.intro hr (show fdOk s d = false by unfold fdOk; rw [h, hr]; rfl)))
      clear h hr
      go_enter Tryd.func50, Tryd.ntmps50
      go_wp2_with fail
      refine (isBits_any s _ hs).mono ?_
      rintro e w1 ⟨rfl, hb1⟩
      rw [HV.out.1]
      go_wp2_with fail
      refine (inRange_any _ _ _ _).mono ?_
      rintro e w' ⟨rfl, rfl⟩
      rw [HV.out.2.1]
      go_wp2_with fail
      go_ret2
      exact retFd_no HV.out.2.2 hb1
    | true =>
      have hs4 := isB_size h
      have hr2 : 0 ≤ d ∧ d ≤ 8 := by simpa [inR] using hr
      obtain ⟨k, rfl⟩ := Int.eq_ofNat_of_zero_le hr2.1
      have HC := Lib.hid (fun w => fairDeep_any k s w hs4 (by omega))
      have HV := Lib.hid (And.intro h (And.intro hr (And.intro (show fdOk s (k : Int) = true by unfold fdOk; rw [h, hr]; rfl) (show fdV s (k : Int) = ffD k s by unfold fdV fdOk; rw [h, hr]; rfl))))
      clear h hr hr2
      go_enter Tryd.func50, Tryd.ntmps50
      go_wp2_with fail
      refine (isBits_any s _ hs).mono ?_
      rintro e w1 ⟨rfl, hb1⟩
      rw [HV.out.1]
      have Hb1 := Lib.hid hb1
      clear hb1
      go_wp2_with fail
      refine (inRange_any _ _ _ _).mono ?_
      rintro e w' ⟨rfl, rfl⟩
      rw [HV.out.2.1]
      go_wp2_with fail
      refine (HC.out _).mono ?_
      rintro e w2 ⟨rfl, hb2⟩
      have Hb2 := Lib.hid (bthen Hb1.out hb2)
      clear hb2
      go_wp2_with fail
      go_ret2
      exact ⟨by rw [HV.out.2.2.1, HV.out.2.2.2]; rfl, Hb2.out⟩
theorem specFairDeep_any (s : ByteArray) (d : Int) (w : World) (hs : s.size ≤ maxLen) : Calls Tryd.prog 49 #[.string s, .int .i64 d] w (RetFd w s d) := by
  cases h : isB s with
  | false =>
    have HV := Lib.hid (And.intro h (show fdOk s d = false by unfold fdOk; rw [h]; rfl))
    clear h
    go_enter Tryd.func49, Tryd.ntmps49
    go_wp2_with fail
    refine (l01Bits_any s _ hs).mono ?_
    rintro e w1 ⟨rfl, rfl⟩
    rw [HV.out.1]
    go_wp2_with fail
    go_ret2
    exact retFd_no HV.out.2 (Below.refl _ _)
  | true =>
    cases hr : inR d 0 8 with
    | false =>
      have HV := Lib.hid (And.intro h (And.intro hr (show fdOk s d = false by unfold fdOk; rw [h, hr]; rfl)))
      clear h hr
      go_enter Tryd.func49, Tryd.ntmps49
      go_wp2_with fail
      refine (l01Bits_any s _ hs).mono ?_
      rintro e w1 ⟨rfl, rfl⟩
      rw [HV.out.1]
      go_wp2_with fail
      refine (l00In_any _ _ _ _).mono ?_
      rintro e w' ⟨rfl, rfl⟩
      rw [HV.out.2.1]
      go_wp2_with fail
      go_ret2
      exact retFd_no HV.out.2.2 (Below.refl _ _)
    | true =>
      have hs4 := isB_size h
      have hr2 : 0 ≤ d ∧ d ≤ 8 := by simpa [inR] using hr
      obtain ⟨k, rfl⟩ := Int.eq_ofNat_of_zero_le hr2.1
      have HC := Lib.hid (fun w => l06Deep_any k s w hs4 (by omega))
      have HV := Lib.hid (And.intro h (And.intro hr (And.intro (show fdOk s (k : Int) = true by unfold fdOk; rw [h, hr]; rfl) (show fdV s (k : Int) = ffD k s by unfold fdV fdOk; rw [h, hr]; rfl))))
      clear h hr hr2
      go_enter Tryd.func49, Tryd.ntmps49
      go_wp2_with fail
      refine (l01Bits_any s _ hs).mono ?_
      rintro e w1 ⟨rfl, rfl⟩
      rw [HV.out.1]
      go_wp2_with fail
      refine (l00In_any _ _ _ _).mono ?_
      rintro e w' ⟨rfl, rfl⟩
      rw [HV.out.2.1]
      go_wp2_with fail
      refine (HC.out _).mono ?_
      rintro e w2 ⟨rfl, hb2⟩
      have Hb2 := Lib.hid hb2
      clear hb2
      go_wp2_with fail
      go_ret2
      exact ⟨by rw [HV.out.2.2.1, HV.out.2.2.2]; rfl, Hb2.out⟩
theorem fnExactFairDeep_walk (s : ByteArray) (d : Int) (w : World) (hs : s.size ≤ maxLen) :
    Calls Tryd.prog 13 #[.string s, .int .i64 d] w fun e w' => e = .returned (.bool true) ∧ Below w.heap.size w w' := by
  by_cases hbig : 1048576 < s.size
  · have : (1048576 : Int) < (s.size : Int) := by omega
    go_enter Tryd.func13, Tryd.ntmps13
    go_wp2
    go_ret
    exact ⟨rfl, Below.refl _ _⟩
  · have HI := Lib.hid (fun w => implFairDeep_any s d w hs)
    have HS := Lib.hid (fun w => specFairDeep_any s d w hs)
    unfold RetFd at HI HS
    obtain ⟨b, hd⟩ : ∃ b, fdOk s d = b := ⟨_, rfl⟩
    obtain ⟨z, hz⟩ : ∃ z, fdV s d = z := ⟨_, rfl⟩
    rw [hd, hz] at HI HS
    have h0 : ¬ (1048576 : Int) < (s.size : Int) := by omega
    clear hd hz hbig
    go_enter Tryd.func13, Tryd.ntmps13
    go_wp2_with fail
    refine (HS.out _).mono ?_
    rintro e w1 ⟨rfl, hb1⟩
    have HB1 := Lib.hid hb1
    clear hb1
    go_wp2_with fail
    refine (HI.out _).mono ?_
    rintro e w2 ⟨rfl, hb2⟩
    have HB2 := Lib.hid (bthen HB1.out hb2)
    clear hb2
    go_wp2
    go_ret
    exact ⟨rfl, HB2.out⟩
end Go.Proofs.YtflgooogiceliaaDoor

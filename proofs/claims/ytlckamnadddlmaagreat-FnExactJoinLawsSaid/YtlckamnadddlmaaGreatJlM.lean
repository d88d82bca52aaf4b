import Derived.Test.YtlckamnadddlmaaGreatJlL
/- Sums of laws where one is not valid, and the law FnExactJoinLaws. No condition. -/
namespace Go.Proofs.YtlckamnadddlmaaGreat
open Go.RowKit
set_option linter.unusedVariables false

set_option maxRecDepth 100000 in
theorem joinI_no (a1 a2 u1 u2 : Option Addr) (n1 m1 c1 c2 n2 m2 d1 d2 : Nat) (vs fs us gs : List Int) (w : World) (hn1 : n1 ≤ 1048576) (hm1 : m1 ≤ 1048576) (hn2 : n2 ≤ 1048576) (hm2 : m2 ≤ 1048576) (h1 : IsInts w a1 n1 vs) (h2 : IsInts w a2 (m1 * 2) fs) (k1 : IsInts w u1 n2 us) (k2 : IsInts w u2 (m2 * 2) gs) (hno : (lawOk vs fs n1 m1 && lawOk us gs n2 m2) = false) :
    Calls Tryz.prog 8 #[.agg #[.slice a1 n1 c1, .slice a2 m1 c2], .agg #[.slice u1 n2 d1, .slice u2 m2 d2]] w (RetLaw w false [] []) := by
  have H0 := Lib.hid (JaS.start (w := w) (V1 := .slice a1 n1 c1) (C1 := .slice a2 m1 c2) (V2 := .slice u1 n2 d1) (C2' := .slice u2 m2 d2) h1 h2 k1 k2 29)
  have HV1 := Lib.hid (fun w h1 h2 => validLaw_any a1 a2 n1 m1 c1 c2 vs fs w hn1 hm1 h1 h2)
  have HV2 := Lib.hid (fun w h1 h2 => validLaw_any u1 u2 n2 m2 d1 d2 us gs w hn2 hm2 h1 h2)
  have hz : ∀ wx : World, LawAt wx w.heap.size (.slice none 0 0) (.slice none 0 0) [] [] := fun wx => ⟨⟨rfl, Or.inl ⟨rfl, rfl⟩⟩, ⟨rfl, Or.inl ⟨rfl, rfl⟩⟩, Or.inl rfl⟩
  have HZ := Lib.hid hz
  clear h1 h2 k1 k2 hz
  obtain ⟨x, hx⟩ : ∃ x, lawOk vs fs n1 m1 = x := ⟨_, rfl⟩
  obtain ⟨y, hy⟩ : ∃ y, lawOk us gs n2 m2 = y := ⟨_, rfl⟩
  rw [hx] at HV1 hno
  rw [hy] at HV2 hno
  clear hx hy
  go_enter Tryz.func8, Tryz.ntmps8
  go_wp2_with fail
  obtain ⟨wA, hwA⟩ : ∃ w', ((w.alloc (.cells #[.slice a1 n1 c1, .slice a2 m1 c2] 29)).alloc (.cells #[.slice u1 n2 d1, .slice u2 m2 d2] 29)).alloc (.cells #[.slice none 0 0, .slice none 0 0] 29) = w' := ⟨_, rfl⟩
  rw [hwA] at H0 ⊢
  clear hwA
  refine (HV1.out _ H0.out.x1 H0.out.x2).mono ?_
  rintro e w1 ⟨rfl, hb⟩
  have H1 := Lib.hid (H0.out.all hb)
  clear hb H0
  obtain ⟨z0, z1, z2, z3, z4⟩ := H1.out.b2
  cases x with
  | false =>
    clear hno
    go_wp2_with fail
    refine bodyPost_ret (v := .tuple #[.agg #[.slice none 0 0, .slice none 0 0], .bool false]) (by simp [results, Tryz.results8, go_sem, *]) rfl ?_
    exact ⟨_, _, rfl, HZ.out _, below_two H1.out.bel (by omega) _ _⟩
  | true =>
    have hyf : y = false := by simpa using hno
    subst hyf
    clear hno
    obtain ⟨y0, y1, y2, y3, y4⟩ := H1.out.b1
    go_wp2_with fail
    refine (HV2.out _ H1.out.y1 H1.out.y2).mono ?_
    rintro e w2 ⟨rfl, hb⟩
    have H2 := Lib.hid (H1.out.all hb)
    clear hb z0 z1 z2 z3 z4 y0 y1 y2 y3 y4
    obtain ⟨z0, z1, z2, z3, z4⟩ := H2.out.b2
    go_wp2_with fail
    refine bodyPost_ret (v := .tuple #[.agg #[.slice none 0 0, .slice none 0 0], .bool false]) (by simp [results, Tryz.results8, go_sem, *]) rfl ?_
    exact ⟨_, _, rfl, HZ.out _, below_two H2.out.bel (by omega) _ _⟩
set_option maxRecDepth 100000 in
theorem joinS_no (a1 a2 u1 u2 : Option Addr) (n1 m1 c1 c2 n2 m2 d1 d2 : Nat) (vs fs us gs : List Int) (w : World) (hn1 : n1 ≤ 1048576) (hm1 : m1 ≤ 1048576) (hn2 : n2 ≤ 1048576) (hm2 : m2 ≤ 1048576) (h1 : IsInts w a1 n1 vs) (h2 : IsInts w a2 (m1 * 2) fs) (k1 : IsInts w u1 n2 us) (k2 : IsInts w u2 (m2 * 2) gs) (hno : (lawOk vs fs n1 m1 && lawOk us gs n2 m2) = false) :
    Calls Tryz.prog 6 #[.agg #[.slice a1 n1 c1, .slice a2 m1 c2], .agg #[.slice u1 n2 d1, .slice u2 m2 d2]] w (RetLaw w false [] []) := by
  have H0 := Lib.hid (JaS.start (w := w) (V1 := .slice a1 n1 c1) (C1 := .slice a2 m1 c2) (V2 := .slice u1 n2 d1) (C2' := .slice u2 m2 d2) h1 h2 k1 k2 29)
  have HV1 := Lib.hid (fun (w : World) (b : Nat) h0 h1 h2 => l05Is_any b a1 a2 n1 m1 c1 c2 vs fs w hn1 hm1 h0 h1 h2)
  have HV2 := Lib.hid (fun (w : World) (b : Nat) h0 h1 h2 => l05Is_any b u1 u2 n2 m2 d1 d2 us gs w hn2 hm2 h0 h1 h2)
  have hz : ∀ wx : World, LawAt wx w.heap.size (.slice none 0 0) (.slice none 0 0) [] [] := fun wx => ⟨⟨rfl, Or.inl ⟨rfl, rfl⟩⟩, ⟨rfl, Or.inl ⟨rfl, rfl⟩⟩, Or.inl rfl⟩
  have HZ := Lib.hid hz
  clear h1 h2 k1 k2 hz
  obtain ⟨x, hx⟩ : ∃ x, lawOk vs fs n1 m1 = x := ⟨_, rfl⟩
  obtain ⟨y, hy⟩ : ∃ y, lawOk us gs n2 m2 = y := ⟨_, rfl⟩
  rw [hx] at HV1 hno
  rw [hy] at HV2 hno
  clear hx hy
  go_enter Tryz.func6, Tryz.ntmps6
  go_wp2_with fail
  obtain ⟨wA, hwA⟩ : ∃ w', ((w.alloc (.cells #[.slice a1 n1 c1, .slice a2 m1 c2] 29)).alloc (.cells #[.slice u1 n2 d1, .slice u2 m2 d2] 29)).alloc (.cells #[.slice none 0 0, .slice none 0 0] 29) = w' := ⟨_, rfl⟩
  rw [hwA] at H0 ⊢
  clear hwA
  refine (HV1.out _ _ H0.out.b0 H0.out.x1 H0.out.x2).mono ?_
  rintro e w1 ⟨rfl, hb⟩
  have H1 := Lib.hid (H0.out.all hb)
  clear hb H0
  obtain ⟨z0, z1, z2, z3, z4⟩ := H1.out.b2
  cases x with
  | false =>
    clear hno
    go_wp2_with fail
    refine bodyPost_ret (v := .tuple #[.agg #[.slice none 0 0, .slice none 0 0], .bool false]) (by simp [results, Tryz.results6, go_sem, *]) rfl ?_
    exact ⟨_, _, rfl, HZ.out _, below_two H1.out.bel (by omega) _ _⟩
  | true =>
    have hyf : y = false := by simpa using hno
    subst hyf
    clear hno
    go_wp2_with fail
    refine (HV2.out _ _ H1.out.b1 H1.out.y1 H1.out.y2).mono ?_
    rintro e w2 ⟨rfl, hb⟩
    have H2 := Lib.hid (H1.out.all hb)
    clear hb z0 z1 z2 z3 z4
    obtain ⟨z0, z1, z2, z3, z4⟩ := H2.out.b2
    go_wp2_with fail
    refine bodyPost_ret (v := .tuple #[.agg #[.slice none 0 0, .slice none 0 0], .bool false]) (by simp [results, Tryz.results6, go_sem, *]) rfl ?_
    exact ⟨_, _, rfl, HZ.out _, below_two H2.out.bel (by omega) _ _⟩
theorem jV_len {vs fs us gs : List Int} {m n : Nat} (h1 : LawQ vs fs m) (h2 : LawQ us gs n) : (jV vs us m n).length ≤ 4096 := by
  have h3 : m * n ≤ 64 * 64 := Nat.mul_le_mul h1.n64 h2.n64
  exact Nat.le_trans (setT_len _ _) (by omega)
theorem fnExactJoinLaws_walk (a0 b0 : Option Addr) (n0 m0 c0 d0 : Nat) (vs0 fs0 : List Int) (a1 b1 : Option Addr) (n1 m1 c1 d1 : Nat) (vs1 fs1 : List Int) (w : World) (hn0 : n0 ≤ maxLen) (hm0 : m0 ≤ maxLen) (h0 : IsInts w a0 n0 vs0) (g0 : IsInts w b0 (m0 * 2) fs0) (hn1 : n1 ≤ maxLen) (hm1 : m1 ≤ maxLen) (h1 : IsInts w a1 n1 vs1) (g1 : IsInts w b1 (m1 * 2) fs1) :
    Calls Tryz.prog 3 #[.agg #[.slice a0 n0 c0, .slice b0 m0 d0], .agg #[.slice a1 n1 c1, .slice b1 m1 d1]] w fun e w' => e = .returned (.bool true) ∧ Below w.heap.size w w' := by
  cases h : (lawOk vs0 fs0 n0 m0 && lawOk vs1 fs1 n1 m1) with
  | false =>
    exact fnExactJoinLaws_of a0 b0 a1 b1 n0 m0 c0 d0 n1 m1 c1 d1 vs0 fs0 vs1 fs1 w hn0 hm0 hn1 hm1 h0 g0 h1 g1 false [] [] (by simp)
      (fun hs w a1 a2 u1 u2 c1 c2 d1 d2 e1 e2 e3 e4 => joinS_no a1 a2 u1 u2 _ _ c1 c2 _ _ d1 d2 _ _ _ _ w (by omega) (by omega) (by omega) (by omega) e1 e2 e3 e4 h)
      (fun hs w a1 a2 u1 u2 c1 c2 d1 d2 e1 e2 e3 e4 => joinI_no a1 a2 u1 u2 _ _ c1 c2 _ _ d1 d2 _ _ _ _ w (by omega) (by omega) (by omega) (by omega) e1 e2 e3 e4 h)
  | true =>
    rw [Bool.and_eq_true] at h
    obtain ⟨rfl, hq0⟩ := lawQ_of h0.1 h.1
    obtain ⟨rfl, hq1⟩ := lawQ_of h1.1 h.2
    refine fnExactJoinLaws_of a0 b0 a1 b1 _ _ c0 d0 _ _ c1 d1 vs0 fs0 vs1 fs1 w hn0 hm0 hn1 hm1 h0 g0 h1 g1 (jOk vs0 fs0 vs1 fs1 m0 m1) (if jOk vs0 fs0 vs1 fs1 m0 m1 then jV vs0 vs1 m0 m1 else []) (if jOk vs0 fs0 vs1 fs1 m0 m1 then jF vs0 fs0 vs1 fs1 m0 m1 else []) ?_
      (fun hs w a1 a2 u1 u2 c1 c2 d1 d2 e1 e2 e3 e4 => joinS_any a1 a2 u1 u2 m0 c1 c2 m1 d1 d2 vs0 fs0 vs1 fs1 w hq0 hq1 e1 e2 e3 e4)
      (fun hs w a1 a2 u1 u2 c1 c2 d1 d2 e1 e2 e3 e4 => joinI_any a1 a2 u1 u2 m0 c1 c2 m1 d1 d2 vs0 fs0 vs1 fs1 w hq0 hq1 e1 e2 e3 e4)
    split
    · have := jV_len hq0 hq1; omega
    · simp
end Go.Proofs.YtlckamnadddlmaaGreat

import Derived.Test.YtaneocedklnajaaGreatLawQ
import Derived.Deep.CutBlock
/- Lists of fractions: the program's tests of all of them. No condition. -/
namespace Go.Proofs.YtaneocedklnajaaGreat
open Go.RowKit
set_option linter.unusedVariables false

def firstB (q : Nat → Bool) (n : Nat) : Int := match (List.range n).find? q with | some i => (i : Int) | none => -1
theorem find_first {q : Nat → Bool} {n k : Nat} (hk : k < n) (hq : q k = true) (hall : ∀ j, j < k → q j = false) : (List.range n).find? q = some k := by
  rw [show n = k + 1 + (n - (k + 1)) by omega, List.range_add, List.range_succ, List.append_assoc, List.find?_append]
  have : (List.range k).find? q = none := by
    rw [List.find?_eq_none]
    intro x hx
    simp [hall x (List.mem_range.1 hx)]
  rw [this]
  simp [hq]
theorem find_nothing {q : Nat → Bool} {n : Nat} (hall : ∀ j, j < n → q j = false) : (List.range n).find? q = none := by
  rw [List.find?_eq_none]
  intro x hx
  simp [hall x (List.mem_range.1 hx)]
theorem firstB_some {q : Nat → Bool} {n k : Nat} (hk : k < n) (hq : q k = true) (hall : ∀ j, j < k → q j = false) : firstB q n = (k : Int) := by
  unfold firstB; rw [find_first hk hq hall]
theorem firstB_none {q : Nat → Bool} {n : Nat} (hall : ∀ j, j < n → q j = false) : firstB q n = -1 := by
  unfold firstB; rw [find_nothing hall]
theorem firstB_any (q : Nat → Bool) (n : Nat) : decide (0 ≤ firstB q n) = (List.range n).any q := by
  unfold firstB
  cases h : (List.range n).find? q with
  | none =>
    rw [List.find?_eq_none] at h
    have : (List.range n).any q = false := by
      rw [List.any_eq_false]; intro x hx; exact h x hx
    rw [this]; rfl
  | some i =>
    have h1 := List.find?_some h
    have h2 := List.mem_of_find?_eq_some h
    have : (List.range n).any q = true := by rw [List.any_eq_true]; exact ⟨i, h2, h1⟩
    rw [this]
    simp
theorem any_not (p : Nat → Bool) (n : Nat) : (!(List.range n).any fun k => !p k) = (List.range n).all p := by
  induction n with
  | zero => rfl
  | succ n ih =>
    rw [List.range_succ, List.any_append, List.all_append, Bool.not_or, ih]
    simp
/-- A fraction of a list that is read. -/
theorem fr_at {w : World} {a : Option Addr} {n : Nat} {fs : List Int} (hx : IsInts w a (n * 2) fs) {k : Nat} (hk : k < n) :
    ∃ b off, a = some ⟨b, off, none⟩ ∧ w.cell? ⟨b, off + k * 2, none⟩ = some (.int .i64 (frN fs k)) ∧ w.cell? ⟨b, off + k * 2 + 1, none⟩ = some (.int .i64 (frD fs k)) := by
  obtain ⟨b, off, rfl, c1⟩ := hx.at (show k * 2 < n * 2 by omega)
  obtain ⟨b1, off1, e1, c2⟩ := hx.at (show k * 2 + 1 < n * 2 by omega)
  simp only [Option.some.injEq, Addr.mk.injEq] at e1
  obtain ⟨rfl, rfl, _⟩ := e1
  rw [← Nat.add_assoc] at c2
  exact ⟨b, off, rfl, c1, c2⟩
theorem areFr1_any (n d : Int) (w : World) : Calls Tryz.prog 96 #[.agg #[.int .i64 n, .int .i64 d]] w (Ret w (.bool (!vF n d))) := by
  have HA := Lib.hid ((Below.refl _ w).alloc (Nat.le_refl _) (.cells #[.int .i64 n, .int .i64 d] 40))
  have HV := Lib.hid (fun w => validFraction_any n d w)
  obtain ⟨v, hv⟩ : ∃ v, vF n d = v := ⟨_, rfl⟩
  rw [hv] at HV ⊢
  clear hv
  go_enter Tryz.func96, Tryz.ntmps96
  go_wp2_with fail
  refine (HV.out _).mono ?_
  rintro e w1 ⟨rfl, hb1⟩
  have H1 := Lib.hid (bthen HA.out hb1)
  clear hb1
  go_wp2
  go_ret
  exact ⟨rfl, H1.out⟩
theorem validLaw1_any (n d : Int) (w : World) : Calls Tryz.prog 60 #[.agg #[.int .i64 n, .int .i64 d]] w (Ret w (.bool (decide (n ≤ 0)))) := by
  have HA := Lib.hid ((Below.refl _ w).alloc (Nat.le_refl _) (.cells #[.int .i64 n, .int .i64 d] 40))
  go_enter Tryz.func60, Tryz.ntmps60
  go_wp2
  go_ret
  exact ⟨rfl, HA.out⟩
set_option maxRecDepth 20000 in
set_option maxHeartbeats 800000 in
theorem indexFuncF_any (c : Nat) (p : Int → Int → Bool) (hf : ∀ args w, Sem.run Tryz.prog (callFunc c args) w = .ok (.enter c args) w) (hc : ∀ n d w, Calls Tryz.prog c #[.agg #[.int .i64 n, .int .i64 d]] w (Ret w (.bool (p n d)))) (a : Option Addr) (len cap : Nat) (fs : List Int) (w : World) (hb : len ≤ 1048576) (hx : IsInts w a (len * 2) fs) :
    Calls Tryz.prog 98 #[.slice a len cap, .func (.func c) #[] #[]] w (Ret w (.int .i64 (firstB (fun k => p (frN fs k) (frD fs k)) len))) := by
  have HX := Lib.hid hx
  have HC := Lib.hid hc
  have HF := Lib.hid hf
  clear hx hc hf
  go_enter Tryz.func98, Tryz.ntmps98
  go_wp2
  go_loopw [8] (fun i wr => ∃ k : Nat, k ≤ len ∧ i = .int .i64 (k : Nat) ∧ Hid (∀ j, j < k → p (frN fs j) (frD fs j) = false) ∧ Hid (Below w.heap.size w wr)) (fun i _ => len - (intOf i).toNat)
  case atStart => exact ⟨0, Nat.zero_le _, rfl, Lib.hid (fun j hj => by omega), Lib.hid (Below.refl _ _)⟩
  case round =>
    obtain ⟨k, hk, rfl, Hall, HB⟩ := hrel
    by_cases hlt : k < len
    · obtain ⟨b, off, rfl, c1, c2⟩ := fr_at (HX.out.below HB.out) hlt
      have hk0 : (0:Int) ≤ (k:Int) := by omega
      have hkl : (k:Int) < (len:Int) := by omega
      have HP := Lib.hid (HC.out (frN fs k) (frD fs k) wr)
      obtain ⟨x, hxx⟩ : ∃ x, frN fs k = x := ⟨_, rfl⟩
      obtain ⟨y, hyy⟩ : ∃ y, frD fs k = y := ⟨_, rfl⟩
      rw [hxx, hyy] at HP
      rw [hxx] at c1
      rw [hyy] at c2
      have HE := Lib.hid (And.intro hxx hyy)
      clear hxx hyy
      cases hin : p x y with
      | false =>
        rw [hin] at HP
        have Hin := Lib.hid hin
        clear hin
        go_wp2_with fail
        rw [HF.out, Oper.upon_enter]
        refine HP.out.mono ?_
        rintro e w1 ⟨rfl, hb1⟩
        have HB1 := Lib.hid (bthen HB.out hb1)
        clear hb1 c1 c2
        go_wp2
        go_roundw
        case rel =>
          refine ⟨k + 1, by omega, by go_num, Lib.hid (fun j hj => ?_), HB1⟩
          by_cases h : j = k
          · subst h; rw [HE.out.1, HE.out.2]; exact Hin.out
          · exact Hall.out j (by omega)
        case measure => simp [intOf]; omega
      | true =>
        rw [hin] at HP
        have Hin := Lib.hid hin
        clear hin
        go_wp2_with fail
        rw [HF.out, Oper.upon_enter]
        refine HP.out.mono ?_
        rintro e w1 ⟨rfl, hb1⟩
        have HB1 := Lib.hid (bthen HB.out hb1)
        clear hb1 c1 c2
        go_wp2
        go_ret
        refine ⟨?_, HB1.out⟩
        rw [firstB_some hlt (by rw [HE.out.1, HE.out.2]; exact Hin.out) Hall.out]
        try rfl
    · obtain rfl : k = len := by omega
      go_wp2
      go_ret
      refine ⟨?_, HB.out⟩
      rw [firstB_none Hall.out]
      rfl
theorem containsFuncF_any (c : Nat) (p : Int → Int → Bool) (hf : ∀ args w, Sem.run Tryz.prog (callFunc c args) w = .ok (.enter c args) w) (hc : ∀ n d w, Calls Tryz.prog c #[.agg #[.int .i64 n, .int .i64 d]] w (Ret w (.bool (p n d)))) (a : Option Addr) (len cap : Nat) (fs : List Int) (w : World) (hb : len ≤ 1048576) (hx : IsInts w a (len * 2) fs) :
    Calls Tryz.prog 59 #[.slice a len cap, .func (.func c) #[] #[]] w (Ret w (.bool ((List.range len).any fun k => p (frN fs k) (frD fs k)))) := by
  have H := Lib.hid (indexFuncF_any c p hf hc a len cap fs w hb hx)
  have HF := Lib.hid (firstB_any (fun k => p (frN fs k) (frD fs k)) len)
  obtain ⟨z, hz⟩ : ∃ z, firstB (fun k => p (frN fs k) (frD fs k)) len = z := ⟨_, rfl⟩
  rw [hz] at H HF
  obtain ⟨v, hv⟩ : ∃ v, ((List.range len).any fun k => p (frN fs k) (frD fs k)) = v := ⟨_, rfl⟩
  rw [hv] at HF ⊢
  clear hz hv hx hc hf
  go_enter Tryz.func59, Tryz.ntmps59
  go_wp2_with fail
  refine H.out.mono ?_
  rintro e w1 ⟨rfl, hb1⟩
  have HB1 := Lib.hid hb1
  clear hb1
  go_wp2
  go_ret
  exact ⟨by rw [HF.out]; rfl, HB1.out⟩
theorem areFractions_any (a : Option Addr) (len cap : Nat) (fs : List Int) (w : World) (hb : len ≤ 1048576) (hx : IsInts w a (len * 2) fs) :
    Calls Tryz.prog 58 #[.slice a len cap] w (Ret w (.bool (allVF fs len))) := by
  have H := Lib.hid (containsFuncF_any 96 (fun n d => !vF n d) (fun _ _ => by kernel_rfl) areFr1_any a len cap fs w hb hx)
  have HV := Lib.hid (any_not (fun k => vF (frN fs k) (frD fs k)) len)
  obtain ⟨v, hv⟩ : ∃ v, ((List.range len).any fun k => !vF (frN fs k) (frD fs k)) = v := ⟨_, rfl⟩
  rw [hv] at H HV
  clear hv hx
  go_enter Tryz.func58, Tryz.ntmps58
  go_wp2_with fail
  refine H.out.mono ?_
  rintro e w1 ⟨rfl, hb1⟩
  have HB1 := Lib.hid hb1
  clear hb1
  go_wp2
  go_ret
  exact ⟨by unfold allVF; rw [← HV.out]; rfl, HB1.out⟩
end Go.Proofs.YtaneocedklnajaaGreat
/- Sums of lists of fractions: the program's and the reference's. No condition. -/
namespace Go.Proofs.YtaneocedklnajaaGreat
open Go.RowKit
set_option linter.unusedVariables false

/-- What a call leaves as it was: all blocks below N, and block N if it was there. -/
theorem keptN_of {P : Program} {f : Nat} {args : Array Value} {w : World} {V : Value} (N : Nat) (h : Calls P f args w fun e w' => e = .returned V ∧ Below w.heap.size w w') (hN : N ≤ w.heap.size) :
    Calls P f args w fun e w' => e = .returned V ∧ Hid (Below w.heap.size w w') ∧
      (∀ b o, b < N → w'.cell? ⟨b, o, none⟩ = w.cell? ⟨b, o, none⟩) ∧ (N < w.heap.size → ∀ o, w'.cell? ⟨N, o, none⟩ = w.cell? ⟨N, o, none⟩) ∧ (N < w.heap.size → ∀ o, w'.frozen? ⟨N, o, none⟩ = w.frozen? ⟨N, o, none⟩) ∧ N ≤ w'.heap.size := by
  refine h.mono ?_
  rintro e w' ⟨rfl, e4⟩
  exact ⟨rfl, Lib.hid e4, fun b o h => e4.cell (p := ⟨b, o, none⟩) (Nat.lt_of_lt_of_le h hN), fun h o => e4.cell (p := ⟨N, o, none⟩) h, fun h o => e4.frozen (p := ⟨N, o, none⟩) h, Nat.le_trans hN e4.size⟩
theorem C2.two {w : World} {b : Nat} {x y : Value} (h : C2 w b x y) (u v : Value) : C2 ((w.setCell ⟨b, 0, none⟩ u).setCell ⟨b, 1, none⟩ v) b u v := (h.set0 u).set1 v
theorem C2.other2 {w : World} {b g : Nat} {x y : Value} (h : C2 w b x y) (hne : g ≠ b) (u v : Value) : C2 ((w.setCell ⟨g, 0, none⟩ u).setCell ⟨g, 1, none⟩ v) b x y := (h.other hne u).other hne v
theorem below_two {w w' : World} {B g : Nat} (h : Below B w w') (hg : B ≤ g) (u v : Value) : Below B w ((w'.setCell ⟨g, 0, none⟩ u).setCell ⟨g, 1, none⟩ v) := (h.setCell (p := ⟨g, 0, none⟩) hg _).setCell (p := ⟨g, 1, none⟩) hg _
set_option maxHeartbeats 1600000 in
theorem addFractions_any (p q b c : Int) (w : World) (h1 : vF p b = true) (h2 : vF q c = true) :
    Calls Tryz.prog 99 #[.agg #[.int .i64 p, .int .i64 b], .agg #[.int .i64 q, .int .i64 c]] w fun e w' => e = .returned (fracV (mkRat p b.toNat + mkRat q c.toNat)) ∧ Below w.heap.size w w' := by
  obtain ⟨⟨hb, hb2⟩, hp, hg1⟩ := vF_iff.1 h1
  obtain ⟨⟨hc, hc2⟩, hq, hg2⟩ := vF_iff.1 h2
  obtain ⟨B, rfl⟩ := Int.eq_ofNat_of_zero_le (show 0 ≤ b by omega)
  obtain ⟨C, rfl⟩ := Int.eq_ofNat_of_zero_le (show 0 ≤ c by omega)
  simp only [Int.toNat_natCast] at hg1 hg2 ⊢
  have H := Lib.hid (fun w => combinedPlus_of p q B C w (by omega) (by omega) (by omega) (by omega) (by omega) (by omega) hg1 hg2 (fun g cap w c0 c1 c2 c3 => by
    have hx : IsInts w (some ⟨g, 0, none⟩) (2 * 2) [p, (B : Int), q, (C : Int)] := ⟨rfl, fun j hj => ⟨g, 0, rfl, by
      rcases (show j = 0 ∨ j = 1 ∨ j = 2 ∨ j = 3 by omega) with rfl | rfl | rfl | rfl
      · exact c0
      · exact c1
      · exact c2
      · exact c3⟩⟩
    have := areFractions_any (some ⟨g, 0, none⟩) 2 cap _ w (by omega) hx
    rw [show allVF [p, (B : Int), q, (C : Int)] 2 = true by
      refine allB_of fun k hk => ?_
      rcases (show k = 0 ∨ k = 1 by omega) with rfl | rfl
      · exact h1
      · exact h2] at this
    exact this))
  obtain ⟨R, hR⟩ : ∃ R, mkRat p B + mkRat q C = R := ⟨_, rfl⟩
  rw [hR] at H ⊢
  obtain ⟨p', q', b', hform⟩ : ∃ p q b, fracV R = .tuple #[.agg #[.int .i64 p, .int .i64 q], .bool b] := by unfold fracV; split <;> exact ⟨_, _, _, rfl⟩
  rw [hform] at H ⊢
  clear hR hform h1 h2 hb hb2 hc hc2 hp hq hg1 hg2
  obtain ⟨t0, t1, t2⟩ := three_boxes w (.cells #[.int .i64 p, .int .i64 (B : Nat)] 40) (.cells #[.int .i64 q, .int .i64 (C : Nat)] 40) (.cells #[.int .i64 0, .int .i64 0] 40)
  have HA0 : Below w.heap.size w (((w.alloc (.cells #[.int .i64 p, .int .i64 (B : Nat)] 40)).alloc (.cells #[.int .i64 q, .int .i64 (C : Nat)] 40)).alloc (.cells #[.int .i64 0, .int .i64 0] 40)) := (((Below.refl _ w).alloc (Nat.le_refl _) _).alloc (by simp) _).alloc (by simp only [alloc_size]; omega) _
  have H0 := Lib.hid (And.intro (C2.of_heap t2) HA0)
  clear t0 t1 t2 HA0
  go_enter Tryz.func99, Tryz.ntmps99
  go_wp2_with fail
  refine (H.out _).mono ?_
  rintro e w1 ⟨rfl, hb1⟩
  have H1 := Lib.hid (And.intro (bthen H0.out.2 hb1) (H0.out.1.all hb1))
  obtain ⟨g0, g1, g2, g3, g4⟩ := H1.out.2
  clear hb1 H0
  go_wp2_with fail
  refine bodyPost_ret (v := .tuple #[.agg #[.int .i64 p', .int .i64 q'], .bool b']) (by simp [results, Tryz.results99, go_sem, *]) rfl ⟨rfl, ?_⟩
  exact below_two H1.out.1 (by omega) _ _
/-- A sum of fractions on the way: block b4 holds it, the first block the result to be. -/
structure SfI (w : World) (b4 : Nat) (r : Rat) (wr : World) : Prop where
  c2 : C2 wr w.heap.size (.int .i64 0) (.int .i64 0)
  c4 : C2 wr b4 (.int .i64 r.num) (.int .i64 (r.den : Nat))
  lt : w.heap.size < b4
  bel : Below w.heap.size w wr
theorem SfI.all {w wr wx : World} {b4 : Nat} {r : Rat} (h : SfI w b4 r wr) (hb : Below wr.heap.size wr wx) : SfI w b4 r wx := ⟨h.c2.all hb, h.c4.all hb, h.lt, bthen h.bel hb⟩
theorem SfI.put {w wr : World} {b4 : Nat} {r r' : Rat} (h : SfI w b4 r wr) : SfI w b4 r' ((wr.setCell ⟨b4, 0, none⟩ (.int .i64 r'.num)).setCell ⟨b4, 1, none⟩ (.int .i64 (r'.den : Nat))) :=
  ⟨h.c2.other2 (by have := h.lt; omega) _ _, h.c4.two _ _, h.lt, below_two h.bel (by have := h.lt; omega) _ _⟩
theorem vF_fit {r : Rat} (h : fitR r = true) : vF r.num (r.den : Int) = true := by
  obtain ⟨h1, h2, h3, h4⟩ := fit_parts h
  exact vF_iff.2 ⟨⟨by omega, by omega⟩, ⟨by omega, by omega⟩, by simpa using h4⟩
set_option maxRecDepth 20000 in
set_option maxHeartbeats 3200000 in
theorem sumFractions_any (a : Option Addr) (n cap : Nat) (fs : List Int) (w : World) (hb : n ≤ 1048576) (hx : IsInts w a (n * 2) fs) :
    Calls Tryz.prog 61 #[.slice a n cap] w fun e w' => e = .returned (sumV fs n) ∧ Below w.heap.size w w' := by
  have hA : Below w.heap.size w (w.alloc (.cells #[.int .i64 0, .int .i64 0] 40)) := (Below.refl _ w).alloc (Nat.le_refl _) _
  have hnw := C2.new w 40 (.int .i64 0) (.int .i64 0)
  have HA := Lib.hid (And.intro hA (And.intro hnw (hx.below hA)))
  have HX := Lib.hid hx
  clear hA hnw hx
  by_cases h64 : n ≤ 64
  · have HF := Lib.hid (areFractions_any a n cap fs _ hb HA.out.2.2)
    obtain ⟨v, hv⟩ : ∃ v, allVF fs n = v := ⟨_, rfl⟩
    rw [hv] at HF
    cases v with
    | false =>
      have HV := Lib.hid (show sumV fs n = zeroF by unfold sumV; rw [hv, Bool.and_false]; rfl)
      clear hv
      go_enter Tryz.func61, Tryz.ntmps61
      go_wp2_with fail
      refine HF.out.mono ?_
      rintro e w1 ⟨rfl, hb1⟩
      have H1 := Lib.hid (And.intro (bthen HA.out.1 hb1) (HA.out.2.1.all hb1))
      obtain ⟨g0, g1, g2, g3, g4⟩ := H1.out.2
      clear hb1
      go_wp2_with fail
      refine bodyPost_ret (v := .tuple #[.agg #[.int .i64 0, .int .i64 0], .bool false]) (by simp [results, Tryz.results61, go_sem, *]) rfl ⟨by rw [HV.out]; rfl, ?_⟩
      exact below_two H1.out.1 (Nat.le_refl _) _ _
    | true =>
      have HV := Lib.hid (And.intro (show sumV fs n = sumFV fs n by unfold sumV; rw [hv, decide_eq_true h64]; rfl) hv)
      clear hv
      go_enter Tryz.func61, Tryz.ntmps61
      go_wp2_with fail
      refine HF.out.mono ?_
      rintro e w1 ⟨rfl, hb1⟩
      have H1 := Lib.hid (And.intro (bthen HA.out.1 hb1) (HA.out.2.1.all hb1))
      have hlt1 : w.heap.size < w1.heap.size := H1.out.2.lt
      clear hb1 HA HF
      go_wp2_with fail
      have hb3 : Below w1.heap.size w1 (w1.alloc (.cells #[.int .i64 0, .int .i64 1] 40)) := (Below.refl _ w1).alloc (Nat.le_refl _) _
      have hn3 := C2.new w1 40 (.int .i64 0) (.int .i64 1)
      obtain ⟨w3, hw3⟩ : ∃ w', w1.alloc (.cells #[.int .i64 0, .int .i64 1] 40) = w' := ⟨_, rfl⟩
      rw [hw3] at hb3 hn3 ⊢
      obtain ⟨b4, hb4⟩ : ∃ b, w1.heap.size = b := ⟨_, rfl⟩
      rw [hb4] at hn3 hlt1 ⊢
      have H3 := Lib.hid (show SfI w b4 (sumR fs 0) w3 from ⟨H1.out.2.all hb3, hn3, hlt1, bthen H1.out.1 hb3⟩)
      clear hb3 hn3 hw3 hb4 H1
      go_loopw [20, 5] (fun i o wr => ∃ k : Nat, k ≤ n ∧ i = .int .i64 (k : Nat) ∧ o = .bool true ∧ Hid (SfI w b4 (sumR fs k) wr ∧ ∀ j, j < k → fitR (sumR fs (j + 1)) = true)) (fun i _ _ => n - (intOf i).toNat)
      case atStart => exact ⟨0, Nat.zero_le _, rfl, rfl, Lib.hid ⟨H3.out, fun j hj => by omega⟩⟩
      case round =>
        clear H3
        obtain ⟨k, hk, rfl, rfl, HS⟩ := hrel
        obtain ⟨z0, z1, z2, z3, z4⟩ := HS.out.1.c4
        obtain ⟨y0, y1, y2, y3, y4⟩ := HS.out.1.c2
        by_cases hlt : k < n
        · obtain ⟨b, off, rfl, c1, c2⟩ := fr_at (HX.out.below HS.out.1.bel) hlt
          have hfk : fitR (sumR fs k) = true := by
            cases k with
            | zero => exact fitR_zero
            | succ k => exact HS.out.2 k (by omega)
          have hkl : (k:Int) < (n:Int) := by omega
          have hok := allB_at HV.out.2 hlt
          have HC := Lib.hid (fun w => addFractions_any (sumR fs k).num (frN fs k) ((sumR fs k).den : Int) (frD fs k) w (vF_fit hfk) hok)
          rw [Int.toNat_natCast, mk_self, show sumR fs k + mkRat (frN fs k) (frD fs k).toNat = sumR fs (k + 1) from rfl] at HC
          obtain ⟨x, hxx⟩ : ∃ x, frN fs k = x := ⟨_, rfl⟩
          obtain ⟨y, hyy⟩ : ∃ y, frD fs k = y := ⟨_, rfl⟩
          rw [hxx, hyy] at HC
          rw [hxx] at c1
          rw [hyy] at c2
          clear hxx hyy hfk hok
          cases hfit : fitR (sumR fs (k + 1)) with
          | false =>
            have HZ := Lib.hid (show sumFV fs n = zeroF from sumFV_no hlt hfit)
            rw [fracV_no hfit] at HC
            clear hfit
            go_wp2_with fail
            have hbb : Below wr.heap.size wr (wr.alloc (.cells #[.int .i64 x, .int .i64 y] 40)) := (Below.refl _ wr).alloc (Nat.le_refl _) _
            have HB := Lib.hid hbb
            clear hbb
            refine (HC.out _).mono ?_
            rintro e w5 ⟨rfl, hb5⟩
            have H5 := Lib.hid ((HS.out.1.all HB.out).all hb5)
            clear hb5 z0 z1 z2 z3 z4 y0 y1 y2 y3 y4 c1 c2
            obtain ⟨z0, z1, z2, z3, z4⟩ := H5.out.c4
            obtain ⟨y0, y1, y2, y3, y4⟩ := (H5.out.c2.other2 (by have := H5.out.lt; omega : b4 ≠ w.heap.size) (.int .i64 0) (.int .i64 0))
            go_wp2_with fail
            refine bodyPost_ret (v := .tuple #[.agg #[.int .i64 0, .int .i64 0], .bool false]) (by simp [results, Tryz.results61, go_sem, *]) rfl ⟨by rw [HV.out.1, HZ.out]; rfl, ?_⟩
            exact below_two (below_two H5.out.bel (by have := H5.out.lt; omega) _ _) (Nat.le_refl _) _ _
          | true =>
            rw [fracV_yes hfit] at HC
            have HZ := Lib.hid hfit
            clear hfit
            go_wp2_with fail
            have hbb : Below wr.heap.size wr (wr.alloc (.cells #[.int .i64 x, .int .i64 y] 40)) := (Below.refl _ wr).alloc (Nat.le_refl _) _
            have HB := Lib.hid hbb
            clear hbb
            refine (HC.out _).mono ?_
            rintro e w5 ⟨rfl, hb5⟩
            have H5 := Lib.hid ((HS.out.1.all HB.out).all hb5)
            clear hb5 z0 z1 z2 z3 z4 y0 y1 y2 y3 y4 c1 c2
            obtain ⟨z0, z1, z2, z3, z4⟩ := H5.out.c4
            go_wp2_with fail
            go_roundw
            case rel => exact ⟨k + 1, by omega, by go_num, rfl, Lib.hid ⟨H5.out.put, fun j hj => by
              rcases Nat.lt_or_ge j k with h | h
              · exact HS.out.2 j h
              · obtain rfl : j = k := by omega
                exact HZ.out⟩⟩
            case measure => simp [intOf]; omega
        · obtain rfl : k = n := by omega
          have hfk : fitR (sumR fs k) = true := by
            cases k with
            | zero => exact fitR_zero
            | succ k => exact HS.out.2 k (by omega)
          have HZ := Lib.hid (show sumFV fs k = _ from (sumFV_yes HS.out.2).trans (fracV_yes hfk))
          clear hfk
          go_wp2_with fail
          refine bodyPost_ret (v := .tuple #[.agg #[.int .i64 (sumR fs k).num, .int .i64 ((sumR fs k).den : Nat)], .bool true]) (by simp [results, Tryz.results61, go_sem, *]) rfl ⟨by rw [HV.out.1, HZ.out], ?_⟩
          exact below_two HS.out.1.bel (Nat.le_refl _) _ _
  · have HV := Lib.hid (show sumV fs n = zeroF by unfold sumV; rw [decide_eq_false h64]; rfl)
    have h64i : (64 : Int) < (n : Int) := by omega
    obtain ⟨g0, g1, g2, g3, g4⟩ := HA.out.2.1
    go_enter Tryz.func61, Tryz.ntmps61
    go_wp2_with fail
    refine bodyPost_ret (v := .tuple #[.agg #[.int .i64 0, .int .i64 0], .bool false]) (by simp [results, Tryz.results61, go_sem, *]) rfl ⟨by rw [HV.out]; rfl, ?_⟩
    first | exact HA.out.1 | exact below_two HA.out.1 (Nat.le_refl _) _ _
end Go.Proofs.YtaneocedklnajaaGreat
/- Sums of lists of fractions in the reference. No condition. -/
namespace Go.Proofs.YtaneocedklnajaaGreat
open Go.RowKit
set_option linter.unusedVariables false

/-- The reference's sum, of fractions that are valid. -/
theorem fadd_v (p q b c : Int) (w : World) (h1 : vF p b = true) (h2 : vF q c = true) :
    Calls Tryz.prog 100 #[.agg #[.int .i64 p, .int .i64 b], .agg #[.int .i64 q, .int .i64 c]] w fun e w' => e = .returned (fracV (mkRat p b.toNat + mkRat q c.toNat)) ∧ Below w.heap.size w w' := by
  obtain ⟨⟨hb, hb2⟩, hp, hg1⟩ := vF_iff.1 h1
  obtain ⟨⟨hc, hc2⟩, hq, hg2⟩ := vF_iff.1 h2
  obtain ⟨B, rfl⟩ := Int.eq_ofNat_of_zero_le (show 0 ≤ b by omega)
  obtain ⟨C, rfl⟩ := Int.eq_ofNat_of_zero_le (show 0 ≤ c by omega)
  simp only [Int.toNat_natCast] at hg1 hg2 ⊢
  exact l01FAdd_any p q B C w (by omega) (by omega) (by omega) (by omega) (by omega) (by omega) hg1 hg2
theorem l05Zero_any (w : World) : Calls Tryz.prog 105 #[] w fun e w' => e = .returned (.agg #[.int .i64 0, .int .i64 1]) ∧ Below w.heap.size w w' := by
  have HA := Lib.hid ((Below.refl _ w).alloc (Nat.le_refl _) (.cells #[.int .i64 0, .int .i64 1] 40))
  go_enter Tryz.func105, Tryz.ntmps105
  go_wp2
  exact bodyPost_ret (v := .agg #[.int .i64 0, .int .i64 1]) (by simp [results, Tryz.results105, go_sem]) rfl ⟨rfl, HA.out⟩
set_option maxHeartbeats 800000 in
theorem l01FAll_any (a : Option Addr) (n cap : Nat) (fs : List Int) (w : World) (hb : n ≤ 1048576) (hx : IsInts w a (n * 2) fs) :
    Calls Tryz.prog 63 #[.slice a n cap] w (Ret w (.bool (allVF fs n))) := by
  have HX := Lib.hid hx
  clear hx
  go_enter Tryz.func63, Tryz.ntmps63
  go_wp2
  go_loopw [3] (fun i wr => ∃ k : Nat, k ≤ n ∧ i = .int .i64 (k : Nat) ∧ Hid (∀ j, j < k → vF (frN fs j) (frD fs j) = true) ∧ Hid (Below w.heap.size w wr)) (fun i _ => n - (intOf i).toNat)
  case atStart => exact ⟨0, Nat.zero_le _, rfl, Lib.hid (fun j hj => by omega), Lib.hid (Below.refl _ _)⟩
  case round =>
    obtain ⟨k, hk, rfl, Hall, HB⟩ := hrel
    by_cases hlt : k < n
    · obtain ⟨b, off, rfl, c1, c2⟩ := fr_at (HX.out.below HB.out) hlt
      have hk0 : (0:Int) ≤ (k:Int) := by omega
      have hkl : (k:Int) < (n:Int) := by omega
      have HP := Lib.hid (l01FIs_any (frN fs k) (frD fs k) wr)
      obtain ⟨x, hxx⟩ : ∃ x, frN fs k = x := ⟨_, rfl⟩
      obtain ⟨y, hyy⟩ : ∃ y, frD fs k = y := ⟨_, rfl⟩
      rw [hxx, hyy] at HP
      rw [hxx] at c1
      rw [hyy] at c2
      have HE := Lib.hid (And.intro hxx hyy)
      clear hxx hyy
      cases hin : vF x y with
      | true =>
        rw [hin] at HP
        have Hin := Lib.hid hin
        clear hin
        go_wp2_with fail
        refine HP.out.mono ?_
        rintro e w1 ⟨rfl, hb1⟩
        have HB1 := Lib.hid (bthen HB.out hb1)
        clear hb1 c1 c2
        go_wp2
        go_roundw
        case rel =>
          refine ⟨k + 1, by omega, by go_num, Lib.hid (fun j hj => ?_), HB1⟩
          by_cases h : j = k
          · subst h; rw [HE.out.1, HE.out.2]; exact Hin.out
          · exact Hall.out j (by omega)
        case measure => simp [intOf]; omega
      | false =>
        rw [hin] at HP
        have Hin := Lib.hid hin
        clear hin
        go_wp2_with fail
        refine HP.out.mono ?_
        rintro e w1 ⟨rfl, hb1⟩
        have HB1 := Lib.hid (bthen HB.out hb1)
        clear hb1 c1 c2
        go_wp2
        go_ret
        refine ⟨?_, HB1.out⟩
        rw [show allVF fs n = false from allB_no hlt (by rw [HE.out.1, HE.out.2]; exact Hin.out)]
        try rfl
    · obtain rfl : k = n := by omega
      go_wp2
      go_ret
      refine ⟨?_, HB.out⟩
      rw [show allVF fs k = true from allB_of Hall.out]
      try rfl
/-- A new box behind a call, or a call behind a new box: the sum is as it was, and the box holds what was stored. -/
theorem ordA {w wr w7 : World} {b4 t : Nat} {r : Rat} {u v : Value} (h : SfI w b4 r wr) (hX : Hid (Below wr.drew.heap.size wr.drew w7)) :
    SfI w b4 r (w7.alloc (.cells #[u, v] t (0, 0))) ∧ C2 (w7.alloc (.cells #[u, v] t (0, 0))) w7.heap.size u v ∧ w7.heap.size ≠ b4 ∧ w7.heap.size ≠ w.heap.size := by
  have hb : Below wr.heap.size wr w7 := bthen (Below.refl _ wr).drew hX.out
  have h7 := h.all hb
  exact ⟨h7.all ((Below.refl _ w7).alloc (Nat.le_refl _) _), C2.new w7 t u v, by have := h7.c4.lt; omega, by have := h7.c2.lt; omega⟩
theorem ordB {w wr w7 : World} {b4 t : Nat} {r : Rat} {x y u v : Value} (h : SfI w b4 r wr) (hX : Hid (Below (wr.alloc (.cells #[x, y] t (0, 0))).drew.heap.size (wr.alloc (.cells #[x, y] t (0, 0))).drew w7)) :
    SfI w b4 r ((w7.setCell ⟨wr.heap.size, 0, none⟩ u).setCell ⟨wr.heap.size, 1, none⟩ v) ∧ C2 ((w7.setCell ⟨wr.heap.size, 0, none⟩ u).setCell ⟨wr.heap.size, 1, none⟩ v) wr.heap.size u v ∧ wr.heap.size ≠ b4 ∧ wr.heap.size ≠ w.heap.size := by
  have ha : Below wr.heap.size wr (wr.alloc (.cells #[x, y] t (0, 0))) := (Below.refl _ wr).alloc (Nat.le_refl _) _
  have hb : Below (wr.alloc (.cells #[x, y] t (0, 0))).heap.size (wr.alloc (.cells #[x, y] t (0, 0))) w7 := bthen (Below.refl _ _).drew hX.out
  have hn := (C2.new wr t x y).all hb
  have h7 := h.all (bthen ha hb)
  have n1 : wr.heap.size ≠ b4 := by have := h.c4.lt; omega
  have n2 : wr.heap.size ≠ w.heap.size := by have := h.c2.lt; omega
  exact ⟨⟨h7.c2.other2 n2 _ _, h7.c4.other2 n1 _ _, h7.lt, below_two h7.bel h.bel.size _ _⟩, hn.two u v, n1, n2⟩
set_option maxRecDepth 20000 in
set_option maxHeartbeats 3200000 in
theorem l01FSum_any (a : Option Addr) (n cap : Nat) (fs : List Int) (w : World) (hb : n ≤ 1048576) (hx : IsInts w a (n * 2) fs) (hv : allVF fs n = true) :
    Calls Tryz.prog 65 #[.slice a n cap] w fun e w' => e = .returned (sumFV fs n) ∧ Below w.heap.size w w' := by
  have HX := Lib.hid (And.intro hx hv)
  clear hx hv
  have hA : Below w.heap.size w ((w.alloc (.cells #[.int .i64 0, .int .i64 0] 40)).alloc (.cells #[.int .i64 0, .int .i64 1] 40)) := ((Below.refl _ w).alloc (Nat.le_refl _) _).alloc (by simp) _
  have hB1 : Below (w.alloc (.cells #[.int .i64 0, .int .i64 0] 40)).heap.size (w.alloc (.cells #[.int .i64 0, .int .i64 0] 40)) ((w.alloc (.cells #[.int .i64 0, .int .i64 0] 40)).alloc (.cells #[.int .i64 0, .int .i64 1] 40)) := (Below.refl _ _).alloc (Nat.le_refl _) _
  have H0 := Lib.hid (show SfI w (w.heap.size + 1) (sumR fs 0) ((w.alloc (.cells #[.int .i64 0, .int .i64 0] 40)).alloc (.cells #[.int .i64 0, .int .i64 1] 40)) from
    ⟨(C2.new w _ _ _).all hB1, by have := C2.new (w.alloc (.cells #[.int .i64 0, .int .i64 0] 40)) 40 (.int .i64 0) (.int .i64 1); rw [alloc_size] at this; exact this, by omega, hA⟩)
  clear hA hB1
  go_enter Tryz.func65, Tryz.ntmps65
  go_wp2_with fail
  obtain ⟨w3, hw3⟩ : ∃ w', ((w.alloc (.cells #[.int .i64 0, .int .i64 0] 40)).alloc (.cells #[.int .i64 0, .int .i64 1] 40)) = w' := ⟨_, rfl⟩
  rw [hw3] at H0 ⊢
  obtain ⟨b4, hb4⟩ : ∃ b, w.heap.size + 1 = b := ⟨_, rfl⟩
  rw [hb4] at H0 ⊢
  clear hw3 hb4
  go_loopw [5] (fun i wr => ∃ k : Nat, k ≤ n ∧ i = .int .i64 (k : Nat) ∧ Hid (SfI w b4 (sumR fs k) wr ∧ ∀ j, j < k → fitR (sumR fs (j + 1)) = true)) (fun i _ => n - (intOf i).toNat)
  case atStart => exact ⟨0, Nat.zero_le _, rfl, Lib.hid ⟨H0.out, fun j hj => by omega⟩⟩
  case round =>
    clear H0
    obtain ⟨k, hk, rfl, HS⟩ := hrel
    obtain ⟨z0, z1, z2, z3, z4⟩ := HS.out.1.c4
    have hfk : fitR (sumR fs k) = true := by
      cases k with
      | zero => exact fitR_zero
      | succ k => exact HS.out.2 k (by omega)
    by_cases hlt : k < n
    · obtain ⟨b, off, rfl, c1, c2⟩ := fr_at (HX.out.1.below HS.out.1.bel) hlt
      have hbs : b < wr.heap.size := World.block_lt_of_cell? wr _ c1
      have hk0 : (0:Int) ≤ (k:Int) := by omega
      have hkl : (k:Int) < (n:Int) := by omega
      have hok := allB_at HX.out.2 hlt
      have HC := Lib.hid (fun w => fadd_v (sumR fs k).num (frN fs k) ((sumR fs k).den : Int) (frD fs k) w (vF_fit hfk) hok)
      rw [Int.toNat_natCast, mk_self, show sumR fs k + mkRat (frN fs k) (frD fs k).toNat = sumR fs (k + 1) from rfl] at HC
      obtain ⟨x, hxx⟩ : ∃ x, frN fs k = x := ⟨_, rfl⟩
      obtain ⟨y, hyy⟩ : ∃ y, frD fs k = y := ⟨_, rfl⟩
      obtain ⟨N1, hN1⟩ : ∃ y, (sumR fs k).num = y := ⟨_, rfl⟩
      obtain ⟨D1, hD1⟩ : ∃ y, (((sumR fs k).den : Nat) : Int) = y := ⟨_, rfl⟩
      rw [hxx, hyy, hN1, hD1] at HC
      rw [hxx] at c1
      rw [hyy] at c2
      rw [hN1] at z0
      rw [hD1] at z1
      have HND := Lib.hid (And.intro hN1 hD1)
      clear hxx hyy hfk hok hN1 hD1
      have hda : ∀ o, (wr.alloc o).drew.heap.size = wr.heap.size + 1 := fun o => alloc_size wr o
      have hds : ∀ o, (wr.drew.alloc o).heap.size = wr.heap.size + 1 := fun o => alloc_size wr.drew o
      have hn0 := World.new_ne wr _ z0
      have hn1 := World.new_ne wr _ c1
      simp at hn0 hn1
      cases hfit : fitR (sumR fs (k + 1)) with
      | false =>
        have HZ := Lib.hid (show sumFV fs n = zeroF from sumFV_no hlt hfit)
        rw [fracV_no hfit] at HC
        clear hfit
        go_wp2_with fail
        go_region_held3 (fun w' => w'.cell? ⟨b4, 0, none⟩ = some (.int .i64 N1) ∧ w'.cell? ⟨b4, 1, none⟩ = some (.int .i64 D1) ∧ w'.cell? ⟨b, off + k * 2, none⟩ = some (.int .i64 x) ∧ w'.cell? ⟨b, off + k * 2 + 1, none⟩ = some (.int .i64 y) ∧ b4 < w'.heap.size ∧ b < w'.heap.size)
          ((repeat' refine And.intro ?_ ?_) <;> first | (go_keep; done) | (go_keep; omega))
          (first | (go_at_call 100; refine (keptN_of wr.heap.size (HC.out _) ?_).mono ?_; (first | exact Nat.le_refl _ | (rw [hda]; omega) | (rw [hds]; omega) | (simp; done)); rintro e w7 ⟨rfl, hX3, r0, r1, r2, r3⟩; have r00 := (fun o => r0 b4 o (by omega)); have r01 := (fun o => r0 b o (by omega)); have r4 : b4 < w7.heap.size := (by omega); have r5 : b < w7.heap.size := (by omega); clear r0))
        all_goals rename_i hHeld
        all_goals clear hHeld z0 z1 z2 z3 z4 c1 c2
        all_goals first
          | (have HN := Lib.hid (ordA (t := 40) (u := .int .i64 0) (v := .int .i64 0) HS.out.1 hX3)
             obtain ⟨wA, hwA⟩ : ∃ w', w7.alloc (.cells #[.int .i64 0, .int .i64 0] 40) = w' := ⟨_, rfl⟩
             rw [hwA] at HN ⊢
             obtain ⟨b6, hb6⟩ : ∃ b, w7.heap.size = b := ⟨_, rfl⟩
             rw [hb6] at HN ⊢)
          | (have HN := Lib.hid (ordB (u := .int .i64 0) (v := .int .i64 0) HS.out.1 hX3)
             obtain ⟨wA, hwA⟩ : ∃ w', (w7.setCell ⟨wr.heap.size, 0, none⟩ (.int .i64 0)).setCell ⟨wr.heap.size, 1, none⟩ (.int .i64 0) = w' := ⟨_, rfl⟩
             rw [hwA] at HN ⊢
             obtain ⟨b6, hb6⟩ : ∃ b, wr.heap.size = b := ⟨_, rfl⟩
             rw [hb6] at HN ⊢)
        all_goals clear hwA hb6 r1 r2 r3 r00 r01 r4 r5 hX3
        all_goals (obtain ⟨y0, y1, y2, y3, y4⟩ := HN.out.1.c2)
        all_goals (go_wp2_with fail)
        all_goals refine bodyPost_ret (v := .tuple #[.agg #[.int .i64 0, .int .i64 0], .bool false]) (by simp [results, Tryz.results65, go_sem, *]) rfl ⟨by rw [HZ.out]; rfl, ?_⟩
        all_goals exact below_two HN.out.1.bel (Nat.le_refl _) _ _
      | true =>
        have HZ := Lib.hid hfit
        rw [fracV_yes hfit] at HC
        clear hfit
        go_wp2_with fail
        go_region_held3 (fun w' => w'.cell? ⟨b4, 0, none⟩ = some (.int .i64 N1) ∧ w'.cell? ⟨b4, 1, none⟩ = some (.int .i64 D1) ∧ w'.cell? ⟨b, off + k * 2, none⟩ = some (.int .i64 x) ∧ w'.cell? ⟨b, off + k * 2 + 1, none⟩ = some (.int .i64 y) ∧ b4 < w'.heap.size ∧ b < w'.heap.size)
          ((repeat' refine And.intro ?_ ?_) <;> first | (go_keep; done) | (go_keep; omega))
          (first | (go_at_call 100; refine (keptN_of wr.heap.size (HC.out _) ?_).mono ?_; (first | exact Nat.le_refl _ | (rw [hda]; omega) | (rw [hds]; omega) | (simp; done)); rintro e w7 ⟨rfl, hX3, r0, r1, r2, r3⟩; have r00 := (fun o => r0 b4 o (by omega)); have r01 := (fun o => r0 b o (by omega)); have r4 : b4 < w7.heap.size := (by omega); have r5 : b < w7.heap.size := (by omega); clear r0))
        all_goals rename_i hHeld
        all_goals clear hHeld z0 z1 z2 z3 z4 c1 c2
        all_goals first
          | (have HN := Lib.hid (ordA (t := 40) (u := .int .i64 (sumR fs (k + 1)).num) (v := .int .i64 ((sumR fs (k + 1)).den : Nat)) HS.out.1 hX3)
             obtain ⟨wA, hwA⟩ : ∃ w', w7.alloc (.cells #[.int .i64 (sumR fs (k + 1)).num, .int .i64 ((sumR fs (k + 1)).den : Nat)] 40) = w' := ⟨_, rfl⟩
             rw [hwA] at HN ⊢
             obtain ⟨b6, hb6⟩ : ∃ b, w7.heap.size = b := ⟨_, rfl⟩
             rw [hb6] at HN ⊢)
          | (have HN := Lib.hid (ordB (u := .int .i64 (sumR fs (k + 1)).num) (v := .int .i64 ((sumR fs (k + 1)).den : Nat)) HS.out.1 hX3)
             obtain ⟨wA, hwA⟩ : ∃ w', (w7.setCell ⟨wr.heap.size, 0, none⟩ (.int .i64 (sumR fs (k + 1)).num)).setCell ⟨wr.heap.size, 1, none⟩ (.int .i64 ((sumR fs (k + 1)).den : Nat)) = w' := ⟨_, rfl⟩
             rw [hwA] at HN ⊢
             obtain ⟨b6, hb6⟩ : ∃ b, wr.heap.size = b := ⟨_, rfl⟩
             rw [hb6] at HN ⊢)
        all_goals clear hwA hb6 r1 r2 r3 r00 r01 r4 r5 hX3
        all_goals (obtain ⟨x0, x1, x2, x3, x4⟩ := HN.out.2.1)
        all_goals (obtain ⟨z0, z1, z2, z3, z4⟩ := HN.out.1.c4)
        all_goals (go_wp2_with fail)
        all_goals
          go_roundw
          case rel => exact ⟨k + 1, by omega, by go_num, Lib.hid ⟨HN.out.1.put, fun j hj => by
              rcases Nat.lt_or_ge j k with h | h
              · exact HS.out.2 j h
              · obtain rfl : j = k := by omega
                exact HZ.out⟩⟩
          case measure => simp [intOf]; omega
    · obtain rfl : k = n := by omega
      obtain ⟨y0, y1, y2, y3, y4⟩ := HS.out.1.c2
      have HZ := Lib.hid (show sumFV fs k = _ from (sumFV_yes HS.out.2).trans (fracV_yes hfk))
      clear hfk
      go_wp2_with fail
      refine bodyPost_ret (v := .tuple #[.agg #[.int .i64 (sumR fs k).num, .int .i64 ((sumR fs k).den : Nat)], .bool true]) (by simp [results, Tryz.results65, go_sem, *]) rfl ⟨by rw [HZ.out], ?_⟩
      exact below_two HS.out.1.bel (Nat.le_refl _) _ _
end Go.Proofs.YtaneocedklnajaaGreat
/- When a law is valid: the program's test. No condition. -/
namespace Go.Proofs.YtaneocedklnajaaGreat
open Go.RowKit
set_option linter.unusedVariables false

set_option maxHeartbeats 800000 in
theorem isIncreasing_any (a : Option Addr) (n cap : Nat) (vs : List Int) (w : World) (hb : n ≤ 1048576) (hx : IsInts w a n vs) :
    Calls Tryz.prog 57 #[.slice a n cap] w (Ret w (.bool (incr vs))) := by
  have HX := Lib.hid hx
  have HL := Lib.hid hx.1
  clear hx
  go_enter Tryz.func57, Tryz.ntmps57
  go_wp2
  go_loopw [3] (fun i wr => ∃ k : Nat, (k + 1 ≤ n ∨ k = 0) ∧ i = .int .i64 ((k + 1 : Nat) : Int) ∧ Hid (∀ j, j < k → decide (vs.getD j 0 < vs.getD (j + 1) 0) = true) ∧ Hid (Below w.heap.size w wr)) (fun i _ => n + 1 - (intOf i).toNat)
  case atStart => exact ⟨0, Or.inr rfl, rfl, Lib.hid (fun j hj => by omega), Lib.hid (Below.refl _ _)⟩
  case round =>
    obtain ⟨k, hk, rfl, Hall, HB⟩ := hrel
    by_cases hlt : k + 1 < n
    · have hx := HX.out.below HB.out
      obtain ⟨b, off, rfl, c1⟩ := hx.at (show k < n by omega)
      obtain ⟨b1, off1, e1, c2⟩ := hx.at hlt
      simp only [Option.some.injEq, Addr.mk.injEq] at e1
      obtain ⟨rfl, rfl, _⟩ := e1
      obtain ⟨x, hxx⟩ : ∃ x, vs.getD k 0 = x := ⟨_, rfl⟩
      obtain ⟨y, hyy⟩ : ∃ y, vs.getD (k + 1) 0 = y := ⟨_, rfl⟩
      rw [hxx] at c1
      rw [hyy] at c2
      have HE := Lib.hid (And.intro hxx hyy)
      have hk0 : (0:Int) ≤ (k:Int) := by omega
      have hkl : (k:Int) < (n:Int) := by omega
      have hkl1 : (k:Int) + 1 < (n:Int) := by omega
      have hk10 : (0:Int) ≤ (k:Int) + 1 := by omega
      have hs : IntKind.i64.wrap (k:Int) = (k:Int) := IntWalk.i64_in _ (by omega)
      have hs3 : ((k:Int) + 1).toNat = k + 1 := by omega
      clear hxx hyy hx
      by_cases hin : x < y
      · have hyx : decide (y ≤ x) = false := decide_eq_false (by omega)
        have Hin := Lib.hid hin
        clear hin
        go_wp2_with fail
        go_quiet (fail)
        go_wp2
        go_roundw
        case rel =>
          refine ⟨k + 1, Or.inl (by omega), by go_num, Lib.hid (fun j hj => ?_), Lib.hid (bthen HB.out (drewN_below _ _))⟩
          by_cases h : j = k
          · subst h; rw [HE.out.1, HE.out.2]; exact decide_eq_true Hin.out
          · exact Hall.out j (by omega)
        case measure => simp [intOf]; omega
      · have hyx : decide (y ≤ x) = true := decide_eq_true (by omega)
        have Hin := Lib.hid hin
        clear hin
        go_wp2_with fail
        go_quiet (fail)
        go_wp2
        go_ret
        refine ⟨?_, bthen HB.out (drewN_below _ _)⟩
        rw [show incr vs = false from allB_no (k := k) (by have := HL.out; omega) (by rw [HE.out.1, HE.out.2]; exact decide_eq_false (by have := Hin.out; omega))]
        try rfl
    · have hni : ¬ ((k:Int) + 1 < (n:Int)) := by omega
      go_wp2
      go_ret
      refine ⟨?_, HB.out⟩
      rw [show incr vs = true from allB_of (fun j hj => Hall.out j (by have := HL.out; omega))]
      try rfl
/-- What a test of a law reads: the law in its box, and both lists. -/
structure LvI (w : World) (V C : Value) (a1 a2 : Option Addr) (n m : Nat) (vs fs : List Int) (wr : World) : Prop where
  bx : C2 wr w.heap.size V C
  val : IsInts wr a1 n vs
  cha : IsInts wr a2 (m * 2) fs
  bel : Below w.heap.size w wr
theorem LvI.all {w wr wx : World} {V C : Value} {a1 a2 : Option Addr} {n m : Nat} {vs fs : List Int} (h : LvI w V C a1 a2 n m vs fs wr) (hb : Below wr.heap.size wr wx) : LvI w V C a1 a2 n m vs fs wx := ⟨h.bx.all hb, h.val.below hb, h.cha.below hb, bthen h.bel hb⟩
theorem LvI.start {w : World} {V C : Value} {a1 a2 : Option Addr} {n m : Nat} {vs fs : List Int} (h1 : IsInts w a1 n vs) (h2 : IsInts w a2 (m * 2) fs) : LvI w V C a1 a2 n m vs fs (w.alloc (.cells #[V, C] 29)) :=
  have hb : Below w.heap.size w (w.alloc (.cells #[V, C] 29)) := (Below.refl _ _).alloc (Nat.le_refl _) _
  ⟨C2.new w _ _ _, h1.below hb, h2.below hb, hb⟩
end Go.Proofs.YtaneocedklnajaaGreat
/- When a law is valid: the program's test. No condition. -/
namespace Go.Proofs.YtaneocedklnajaaGreat
open Go.RowKit
set_option linter.unusedVariables false

theorem posAny (fs : List Int) (n : Nat) : ((List.range n).any fun k => decide (frN fs k ≤ 0)) = !allPos fs n := by
  have h := any_not (fun k => decide (0 < frN fs k)) n
  unfold allPos
  rw [← h, Bool.not_not]
  have e : (fun k => decide (frN fs k ≤ 0)) = fun k => !decide (0 < frN fs k) := by
    funext k
    rw [← decide_not]
    exact decide_eq_decide.2 (by omega)
  rw [e]
set_option maxRecDepth 20000 in
set_option maxHeartbeats 6400000 in
theorem validLaw_any (a1 a2 : Option Addr) (n m c1 c2 : Nat) (vs fs : List Int) (w : World) (hn : n ≤ 1048576) (hm : m ≤ 1048576) (h1 : IsInts w a1 n vs) (h2 : IsInts w a2 (m * 2) fs) :
    Calls Tryz.prog 21 #[.agg #[.slice a1 n c1, .slice a2 m c2]] w (Ret w (.bool (lawOk vs fs n m))) := by
  have H0 := Lib.hid (LvI.start (V := .slice a1 n c1) (C := .slice a2 m c2) h1 h2)
  have HR := Lib.hid (fun w => inRange_any (n : Int) 1 64 w)
  have HA := Lib.hid (fun w h => allIn_any a1 n c1 vs (-1000000000000000) 1000000000000000 w (by omega) h)
  have HI := Lib.hid (fun w h => isIncreasing_any a1 n c1 vs w hn h)
  have HF := Lib.hid (fun w h => areFractions_any a2 m c2 fs w hm h)
  have HP := Lib.hid (fun w h => containsFuncF_any 60 (fun n d => decide (n ≤ 0)) (fun _ _ => by kernel_rfl) validLaw1_any a2 m c2 fs w hm h)
  rw [posAny] at HP
  have HSU := Lib.hid (fun w h => sumFractions_any a2 m c2 fs w hm h)
  clear h1 h2
  obtain ⟨v0, h1⟩ : ∃ v, inR (n : Int) 1 64 = v := ⟨_, rfl⟩
  rw [h1] at HR
  cases v0 with
  | false =>
    have HV := Lib.hid (show lawOk vs fs n m = false by unfold lawOk; rw [h1]; rfl)
    clear h1
    go_enter Tryz.func21, Tryz.ntmps21
    obtain ⟨z0, z1, z2, z3, z4⟩ := H0.out.bx
    go_wp2_with fail
    refine (length_any _ _ _ _).mono ?_
    rintro e w' ⟨rfl, rfl⟩
    go_wp2_with fail
    refine (HR.out _).mono ?_
    rintro e w' ⟨rfl, rfl⟩
    go_wp2
    go_ret
    exact ⟨by rw [HV.out]; rfl, H0.out.bel⟩
  | true =>
    by_cases h2 : m = n
    · subst h2
      obtain ⟨v2, h3⟩ : ∃ v, allR vs (-1000000000000000) 1000000000000000 = v := ⟨_, rfl⟩
      rw [h3] at HA
      cases v2 with
      | false =>
        have HV := Lib.hid (show lawOk vs fs m m = false by unfold lawOk; rw [h1, decide_eq_true rfl, h3]; rfl)
        clear h1 h3
        go_enter Tryz.func21, Tryz.ntmps21
        obtain ⟨z0, z1, z2, z3, z4⟩ := H0.out.bx
        go_wp2_with fail
        refine (length_any _ _ _ _).mono ?_
        rintro e w' ⟨rfl, rfl⟩
        go_wp2_with fail
        refine (HR.out _).mono ?_
        rintro e w' ⟨rfl, rfl⟩
        go_wp2_with fail
        refine (HA.out _ H0.out.val).mono ?_
        rintro e w1 ⟨rfl, hb⟩
        have H1 := Lib.hid (H0.out.all hb)
        clear hb z0 z1 z2 z3 z4
        obtain ⟨z0, z1, z2, z3, z4⟩ := H1.out.bx
        go_wp2
        go_ret
        exact ⟨by rw [HV.out]; rfl, H1.out.bel⟩
      | true =>
        obtain ⟨v3, h4⟩ : ∃ v, incr vs = v := ⟨_, rfl⟩
        rw [h4] at HI
        cases v3 with
        | false =>
          have HV := Lib.hid (show lawOk vs fs m m = false by unfold lawOk; rw [h1, decide_eq_true rfl, h3, h4]; rfl)
          clear h1 h3 h4
          go_enter Tryz.func21, Tryz.ntmps21
          obtain ⟨z0, z1, z2, z3, z4⟩ := H0.out.bx
          go_wp2_with fail
          refine (length_any _ _ _ _).mono ?_
          rintro e w' ⟨rfl, rfl⟩
          go_wp2_with fail
          refine (HR.out _).mono ?_
          rintro e w' ⟨rfl, rfl⟩
          go_wp2_with fail
          refine (HA.out _ H0.out.val).mono ?_
          rintro e w1 ⟨rfl, hb⟩
          have H1 := Lib.hid (H0.out.all hb)
          clear hb z0 z1 z2 z3 z4
          obtain ⟨z0, z1, z2, z3, z4⟩ := H1.out.bx
          go_wp2_with fail
          refine (HI.out _ H1.out.val).mono ?_
          rintro e w2 ⟨rfl, hb⟩
          have H2 := Lib.hid (H1.out.all hb)
          clear hb z0 z1 z2 z3 z4
          obtain ⟨z0, z1, z2, z3, z4⟩ := H2.out.bx
          go_wp2
          go_ret
          exact ⟨by rw [HV.out]; rfl, H2.out.bel⟩
        | true =>
          obtain ⟨v4, h5⟩ : ∃ v, allVF fs m = v := ⟨_, rfl⟩
          rw [h5] at HF
          cases v4 with
          | false =>
            have HV := Lib.hid (show lawOk vs fs m m = false by unfold lawOk; rw [h1, decide_eq_true rfl, h3, h4, h5]; rfl)
            clear h1 h3 h4 h5
            go_enter Tryz.func21, Tryz.ntmps21
            obtain ⟨z0, z1, z2, z3, z4⟩ := H0.out.bx
            go_wp2_with fail
            refine (length_any _ _ _ _).mono ?_
            rintro e w' ⟨rfl, rfl⟩
            go_wp2_with fail
            refine (HR.out _).mono ?_
            rintro e w' ⟨rfl, rfl⟩
            go_wp2_with fail
            refine (HA.out _ H0.out.val).mono ?_
            rintro e w1 ⟨rfl, hb⟩
            have H1 := Lib.hid (H0.out.all hb)
            clear hb z0 z1 z2 z3 z4
            obtain ⟨z0, z1, z2, z3, z4⟩ := H1.out.bx
            go_wp2_with fail
            refine (HI.out _ H1.out.val).mono ?_
            rintro e w2 ⟨rfl, hb⟩
            have H2 := Lib.hid (H1.out.all hb)
            clear hb z0 z1 z2 z3 z4
            obtain ⟨z0, z1, z2, z3, z4⟩ := H2.out.bx
            go_wp2_with fail
            refine (HF.out _ H2.out.cha).mono ?_
            rintro e w3 ⟨rfl, hb⟩
            have H3 := Lib.hid (H2.out.all hb)
            clear hb z0 z1 z2 z3 z4
            obtain ⟨z0, z1, z2, z3, z4⟩ := H3.out.bx
            go_wp2
            go_ret
            exact ⟨by rw [HV.out]; rfl, H3.out.bel⟩
          | true =>
            obtain ⟨v5, h6⟩ : ∃ v, allPos fs m = v := ⟨_, rfl⟩
            rw [h6] at HP
            cases v5 with
            | false =>
              have HV := Lib.hid (show lawOk vs fs m m = false by unfold lawOk; rw [h1, decide_eq_true rfl, h3, h4, h5, h6]; rfl)
              clear h1 h3 h4 h5 h6
              go_enter Tryz.func21, Tryz.ntmps21
              obtain ⟨z0, z1, z2, z3, z4⟩ := H0.out.bx
              go_wp2_with fail
              refine (length_any _ _ _ _).mono ?_
              rintro e w' ⟨rfl, rfl⟩
              go_wp2_with fail
              refine (HR.out _).mono ?_
              rintro e w' ⟨rfl, rfl⟩
              go_wp2_with fail
              refine (HA.out _ H0.out.val).mono ?_
              rintro e w1 ⟨rfl, hb⟩
              have H1 := Lib.hid (H0.out.all hb)
              clear hb z0 z1 z2 z3 z4
              obtain ⟨z0, z1, z2, z3, z4⟩ := H1.out.bx
              go_wp2_with fail
              refine (HI.out _ H1.out.val).mono ?_
              rintro e w2 ⟨rfl, hb⟩
              have H2 := Lib.hid (H1.out.all hb)
              clear hb z0 z1 z2 z3 z4
              obtain ⟨z0, z1, z2, z3, z4⟩ := H2.out.bx
              go_wp2_with fail
              refine (HF.out _ H2.out.cha).mono ?_
              rintro e w3 ⟨rfl, hb⟩
              have H3 := Lib.hid (H2.out.all hb)
              clear hb z0 z1 z2 z3 z4
              obtain ⟨z0, z1, z2, z3, z4⟩ := H3.out.bx
              go_wp2_with fail
              refine (HP.out _ H3.out.cha).mono ?_
              rintro e w4 ⟨rfl, hb⟩
              have H4 := Lib.hid (H3.out.all hb)
              clear hb z0 z1 z2 z3 z4
              obtain ⟨z0, z1, z2, z3, z4⟩ := H4.out.bx
              go_wp2
              go_ret
              exact ⟨by rw [HV.out]; rfl, H4.out.bel⟩
            | true =>
              have HS6 := Lib.hid (show ∀ w, IsInts w a2 (m * 2) fs → Calls Tryz.prog 61 #[.slice a2 m c2] w fun e w' => e = .returned (sumFV fs m) ∧ Below w.heap.size w w' from fun w h => by have := HSU.out w h; rw [show sumV fs m = sumFV fs m by unfold sumV; rw [h5, decide_eq_true (by simp only [inR, Bool.and_eq_true, decide_eq_true_eq] at h1; omega)]; rfl] at this; exact this)
              have HL := Lib.hid (show lawOk vs fs m m = (sumOk fs m && decide (sumR fs m = 1)) by unfold lawOk; rw [h1, decide_eq_true rfl, h3, h4, h5, h6]; rfl)
              cases hs : sumOk fs m with
              | false =>
                have HV := Lib.hid (show lawOk vs fs m m = false by rw [HL.out, hs]; rfl)
                rw [show sumFV fs m = zeroF by unfold sumFV; rw [hs]; rfl] at HS6
                unfold zeroF at HS6
                clear hs h1 h3 h4 h5 h6
                go_enter Tryz.func21, Tryz.ntmps21
                obtain ⟨z0, z1, z2, z3, z4⟩ := H0.out.bx
                go_wp2_with fail
                refine (length_any _ _ _ _).mono ?_
                rintro e w' ⟨rfl, rfl⟩
                go_wp2_with fail
                refine (HR.out _).mono ?_
                rintro e w' ⟨rfl, rfl⟩
                go_wp2_with fail
                refine (HA.out _ H0.out.val).mono ?_
                rintro e w1 ⟨rfl, hb⟩
                have H1 := Lib.hid (H0.out.all hb)
                clear hb z0 z1 z2 z3 z4
                obtain ⟨z0, z1, z2, z3, z4⟩ := H1.out.bx
                go_wp2_with fail
                refine (HI.out _ H1.out.val).mono ?_
                rintro e w2 ⟨rfl, hb⟩
                have H2 := Lib.hid (H1.out.all hb)
                clear hb z0 z1 z2 z3 z4
                obtain ⟨z0, z1, z2, z3, z4⟩ := H2.out.bx
                go_wp2_with fail
                refine (HF.out _ H2.out.cha).mono ?_
                rintro e w3 ⟨rfl, hb⟩
                have H3 := Lib.hid (H2.out.all hb)
                clear hb z0 z1 z2 z3 z4
                obtain ⟨z0, z1, z2, z3, z4⟩ := H3.out.bx
                go_wp2_with fail
                refine (HP.out _ H3.out.cha).mono ?_
                rintro e w4 ⟨rfl, hb⟩
                have H4 := Lib.hid (H3.out.all hb)
                clear hb z0 z1 z2 z3 z4
                obtain ⟨z0, z1, z2, z3, z4⟩ := H4.out.bx
                go_wp2_with fail
                refine (HS6.out _ H4.out.cha).mono ?_
                rintro e w8 ⟨rfl, hb⟩
                have H8 := Lib.hid (H4.out.all hb)
                clear hb z0 z1 z2 z3 z4
                go_wp2
                go_ret
                exact ⟨by rw [HV.out]; rfl, bthen H8.out.bel ((Below.refl _ w8).alloc (Nat.le_refl _) _)⟩
              | true =>
                have hfit := sumOk_le hs (Nat.le_refl m)
                rw [show sumFV fs m = .tuple #[.agg #[.int .i64 (sumR fs m).num, .int .i64 ((sumR fs m).den : Nat)], .bool true] by unfold sumFV; rw [hs, if_pos rfl, fracV_yes hfit]] at HS6
                have HV := Lib.hid (show lawOk vs fs m m = (decide ((sumR fs m).num = 1) && decide ((sumR fs m).den = 1)) by rw [HL.out, hs, Bool.true_and, ← Bool.decide_and]; exact decide_eq_decide.2 (rat_one_iff _))
                obtain ⟨p, hp⟩ : ∃ p, (sumR fs m).num = p := ⟨_, rfl⟩
                obtain ⟨q, hq⟩ : ∃ q, (sumR fs m).den = q := ⟨_, rfl⟩
                rw [hp, hq] at HS6 HV
                clear hs h1 h3 h4 h5 h6 hfit hp hq HL HSU
                have HV2 : lawOk vs fs m m = true ∧ p = 1 ∧ (q : Int) = 1 ∨ lawOk vs fs m m = false ∧ p = 1 ∧ ¬ (q : Int) = 1 ∨ lawOk vs fs m m = false ∧ ¬ p = 1 := by
                  rw [HV.out]
                  by_cases e1 : p = 1
                  · by_cases e2 : q = 1
                    · exact Or.inl ⟨by rw [decide_eq_true e1, decide_eq_true e2]; rfl, e1, by omega⟩
                    · exact Or.inr (Or.inl ⟨by rw [decide_eq_false e2, Bool.and_false], e1, by omega⟩)
                  · exact Or.inr (Or.inr ⟨by rw [decide_eq_false e1, Bool.false_and], e1⟩)
                clear HV
                rcases HV2 with ⟨hv, e1, e2⟩ | ⟨hv, e1, e2⟩ | ⟨hv, e1⟩
                all_goals
                  have HV := Lib.hid hv
                  clear hv
                  go_enter Tryz.func21, Tryz.ntmps21
                  obtain ⟨z0, z1, z2, z3, z4⟩ := H0.out.bx
                  go_wp2_with fail
                  refine (length_any _ _ _ _).mono ?_
                  rintro e w' ⟨rfl, rfl⟩
                  go_wp2_with fail
                  refine (HR.out _).mono ?_
                  rintro e w' ⟨rfl, rfl⟩
                  go_wp2_with fail
                  refine (HA.out _ H0.out.val).mono ?_
                  rintro e w1 ⟨rfl, hb⟩
                  have H1 := Lib.hid (H0.out.all hb)
                  clear hb z0 z1 z2 z3 z4
                  obtain ⟨z0, z1, z2, z3, z4⟩ := H1.out.bx
                  go_wp2_with fail
                  refine (HI.out _ H1.out.val).mono ?_
                  rintro e w2 ⟨rfl, hb⟩
                  have H2 := Lib.hid (H1.out.all hb)
                  clear hb z0 z1 z2 z3 z4
                  obtain ⟨z0, z1, z2, z3, z4⟩ := H2.out.bx
                  go_wp2_with fail
                  refine (HF.out _ H2.out.cha).mono ?_
                  rintro e w3 ⟨rfl, hb⟩
                  have H3 := Lib.hid (H2.out.all hb)
                  clear hb z0 z1 z2 z3 z4
                  obtain ⟨z0, z1, z2, z3, z4⟩ := H3.out.bx
                  go_wp2_with fail
                  refine (HP.out _ H3.out.cha).mono ?_
                  rintro e w4 ⟨rfl, hb⟩
                  have H4 := Lib.hid (H3.out.all hb)
                  clear hb z0 z1 z2 z3 z4
                  obtain ⟨z0, z1, z2, z3, z4⟩ := H4.out.bx
                  go_wp2_with fail
                  refine (HS6.out _ H4.out.cha).mono ?_
                  rintro e w8 ⟨rfl, hb⟩
                  have H8 := Lib.hid (H4.out.all hb)
                  clear hb z0 z1 z2 z3 z4
                  go_wp2
                  go_ret
                  exact ⟨by rw [HV.out]; rfl, bthen H8.out.bel ((Below.refl _ w8).alloc (Nat.le_refl _) _)⟩
    · have HV := Lib.hid (show lawOk vs fs n m = false by unfold lawOk; rw [h1, decide_eq_false h2]; rfl)
      have hne : ((m : Int) != (n : Int)) = true := by simp; omega
      have hne2 : ((m : Int) == (n : Int)) = false := by rw [beq_eq_false_iff_ne]; omega
      have hne3 : (m == n) = false := by rw [beq_eq_false_iff_ne]; exact h2
      clear h1
      go_enter Tryz.func21, Tryz.ntmps21
      obtain ⟨z0, z1, z2, z3, z4⟩ := H0.out.bx
      go_wp2_with fail
      refine (length_any _ _ _ _).mono ?_
      rintro e w' ⟨rfl, rfl⟩
      go_wp2_with fail
      refine (HR.out _).mono ?_
      rintro e w' ⟨rfl, rfl⟩
      go_wp2
      go_ret
      exact ⟨by rw [HV.out]; rfl, H0.out.bel⟩
end Go.Proofs.YtaneocedklnajaaGreat
/- When a law is valid: the reference's test. No condition. -/
namespace Go.Proofs.YtaneocedklnajaaGreat
open Go.RowKit
set_option linter.unusedVariables false

/-- What the reference asks at each place of a law. -/
def goodAt (vs fs : List Int) (k : Nat) : Bool := inR (vs.getD k 0) (-1000000000000000) 1000000000000000 && (decide (0 < frN fs k) && (decide (k = 0) || decide (vs.getD (k - 1) 0 < vs.getD k 0)))
theorem good_all (vs fs : List Int) : (List.range vs.length).all (goodAt vs fs) = (allR vs (-1000000000000000) 1000000000000000 && (incr vs && allPos fs vs.length)) := by
  rw [Bool.eq_iff_iff]
  simp only [List.all_eq_true, List.mem_range, goodAt, Bool.and_eq_true, allR, incr, allPos, decide_eq_true_eq, Bool.or_eq_true]
  constructor
  · intro h
    refine ⟨fun x hx => ?_, fun k hk => ?_, fun k hk => (h k hk).2.1⟩
    · obtain ⟨j, hj, rfl⟩ := List.getElem_of_mem hx
      have := (h j hj).1
      rwa [getD_eq _ _ hj] at this
    · rcases (h (k + 1) (by omega)).2.2 with h | h
      · omega
      · simpa using h
  · rintro ⟨h1, h2, h3⟩ k hk
    refine ⟨?_, h3 k hk, ?_⟩
    · rw [getD_eq _ _ hk]; exact h1 _ (List.getElem_mem hk)
    · cases k with
      | zero => left; rfl
      | succ k => right; simpa using h2 k (by omega)
theorem lawOk_good (vs fs : List Int) (n m : Nat) (hl : vs.length = n) : lawOk vs fs n m = (inR n 1 64 && (decide (m = n) && (allVF fs n && ((List.range n).all (goodAt vs fs) && (sumOk fs n && decide (sumR fs n = 1)))))) := by
  subst hl
  rw [good_all]
  unfold lawOk
  cases inR (vs.length : Int) 1 64 <;> cases decide (m = vs.length) <;> cases allVF fs vs.length <;> cases allR vs (-1000000000000000) 1000000000000000 <;> cases incr vs <;> cases allPos fs vs.length <;> rfl
/-- What the reference's test reads: the law behind a pointer, and both lists. -/
structure LvS (w : World) (b : Nat) (V C : Value) (a1 a2 : Option Addr) (n m : Nat) (vs fs : List Int) (wr : World) : Prop where
  bx : C2 wr b V C
  val : IsInts wr a1 n vs
  cha : IsInts wr a2 (m * 2) fs
  bel : Below w.heap.size w wr
theorem LvS.all {w wr wx : World} {b : Nat} {V C : Value} {a1 a2 : Option Addr} {n m : Nat} {vs fs : List Int} (h : LvS w b V C a1 a2 n m vs fs wr) (hb : Below wr.heap.size wr wx) : LvS w b V C a1 a2 n m vs fs wx := ⟨h.bx.all hb, h.val.below hb, h.cha.below hb, bthen h.bel hb⟩
set_option maxRecDepth 20000 in
set_option maxHeartbeats 6400000 in
theorem l05Is_any (b : Nat) (a1 a2 : Option Addr) (n m c1 c2 : Nat) (vs fs : List Int) (w : World) (hn : n ≤ 1048576) (hm : m ≤ 1048576) (h0 : C2 w b (.slice a1 n c1) (.slice a2 m c2)) (h1 : IsInts w a1 n vs) (h2 : IsInts w a2 (m * 2) fs) :
    Calls Tryz.prog 25 #[.pointer (some ⟨b, 0, none⟩)] w (Ret w (.bool (lawOk vs fs n m))) := by
  have hl := h1.1
  have HG := Lib.hid (lawOk_good vs fs n m hl)
  have H0 := Lib.hid (show LvS w b (.slice a1 n c1) (.slice a2 m c2) a1 a2 n m vs fs w from ⟨h0, h1, h2, Below.refl _ _⟩)
  have HF := Lib.hid (fun w h => l01FAll_any a2 m c2 fs w hm h)
  have HSU := Lib.hid (fun w h => l01FSum_any a2 m c2 fs w hm h)
  clear h0 h1 h2 hl
  obtain ⟨z0, z1, z2, z3, z4⟩ := H0.out.bx
  by_cases g1 : n < 1
  · have HV := Lib.hid (show lawOk vs fs n m = false by rw [HG.out, show inR (n : Int) 1 64 = false by unfold inR; rw [decide_eq_false (by omega)]; rfl]; rfl)
    have hi : (n : Int) < 1 := by omega
    go_enter Tryz.func25, Tryz.ntmps25
    go_wp2
    go_ret
    exact ⟨by rw [HV.out]; rfl, Below.refl _ _⟩
  by_cases g2 : 64 < n
  · have HV := Lib.hid (show lawOk vs fs n m = false by rw [HG.out, show inR (n : Int) 1 64 = false by unfold inR; rw [decide_eq_false (show ¬ (n : Int) ≤ 64 by omega), Bool.and_false]]; rfl)
    have hi : ¬ (n : Int) < 1 := by omega
    have hi2 : (64 : Int) < (n : Int) := by omega
    go_enter Tryz.func25, Tryz.ntmps25
    go_wp2
    go_ret
    exact ⟨by rw [HV.out]; rfl, Below.refl _ _⟩
  have HI := Lib.hid (show inR (n : Int) 1 64 = true by unfold inR; rw [decide_eq_true (by omega), decide_eq_true (by omega)]; rfl)
  have hi : ¬ (n : Int) < 1 := by omega
  have hi2 : ¬ (64 : Int) < (n : Int) := by omega
  by_cases g3 : m = n
  · subst g3
    obtain ⟨v, hv⟩ : ∃ v, allVF fs m = v := ⟨_, rfl⟩
    rw [hv] at HF
    cases v with
    | false =>
      have HV := Lib.hid (show lawOk vs fs m m = false by rw [HG.out, HI.out, decide_eq_true rfl, hv]; rfl)
      clear hv
      go_enter Tryz.func25, Tryz.ntmps25
      go_wp2_with fail
      refine (HF.out _ H0.out.cha).mono ?_
      rintro e w1 ⟨rfl, hb⟩
      have H1 := Lib.hid (H0.out.all hb)
      clear hb z0 z1 z2 z3 z4
      go_wp2
      go_ret
      exact ⟨by rw [HV.out]; rfl, H1.out.bel⟩
    | true =>
      have HL := Lib.hid (show lawOk vs fs m m = ((List.range m).all (goodAt vs fs) && (sumOk fs m && decide (sumR fs m = 1))) by rw [HG.out, HI.out, decide_eq_true rfl, hv]; rfl)
      have HS6 := Lib.hid (fun w h => HSU.out w h hv)
      clear hv
      go_enter Tryz.func25, Tryz.ntmps25
      go_wp2_with fail
      refine (HF.out _ H0.out.cha).mono ?_
      rintro e w1 ⟨rfl, hb⟩
      have H1 := Lib.hid (H0.out.all hb)
      clear hb z0 z1 z2 z3 z4 H0 HF HSU HG
      go_wp2_with fail
      go_loopw [4] (fun i wr => ∃ k : Nat, k ≤ m ∧ i = .int .i64 (k : Nat) ∧ Hid (LvS w b (.slice a1 m c1) (.slice a2 m c2) a1 a2 m m vs fs wr ∧ ∀ j, j < k → goodAt vs fs j = true)) (fun i _ => m - (intOf i).toNat)
      case atStart => exact ⟨0, Nat.zero_le _, rfl, Lib.hid ⟨H1.out, fun j hj => by omega⟩⟩
      case round =>
        clear H1
        obtain ⟨k, hk, rfl, HS⟩ := hrel
        obtain ⟨z0, z1, z2, z3, z4⟩ := HS.out.1.bx
        by_cases hlt : k < m
        · have hk0 : (0:Int) ≤ (k:Int) := by omega
          have hkl : (k:Int) < (m:Int) := by omega
          have hR := fun w => l00InQ (vs.getD k 0) (-1000000000000000) 1000000000000000 w
          obtain ⟨v1, hv1⟩ : ∃ v, inR (vs.getD k 0) (-1000000000000000) 1000000000000000 = v := ⟨_, rfl⟩
          rw [hv1] at hR
          obtain ⟨g, off, rfl, c1'⟩ := HS.out.1.val.at hlt
          obtain ⟨x, hx⟩ : ∃ x, vs.getD k 0 = x := ⟨_, rfl⟩
          rw [hx] at c1' hR
          obtain ⟨g2', off2, rfl, d1, d2⟩ := fr_at HS.out.1.cha hlt
          obtain ⟨y, hy⟩ : ∃ y, frN fs k = y := ⟨_, rfl⟩
          rw [hy] at d1
          clear d2
          have HR := Lib.hid hR
          have HX := Lib.hid (And.intro hx (And.intro hy hv1))
          clear hR hx hy hv1
          cases v1 with
          | false =>
            have HV := Lib.hid (show lawOk vs fs m m = false by rw [HL.out, allB_no hlt (show goodAt vs fs k = false by unfold goodAt; rw [HX.out.2.2]; rfl)]; rfl)
            clear HX
            go_wp2_with fail
            go_quiet ((go_at_call 64; exact Calls.quiet_of_same (HR.out _)))
            go_wp2
            go_ret
            exact ⟨by rw [HV.out]; rfl, bthen HS.out.1.bel (drewN_below _ _)⟩
          | true =>
            by_cases hy0 : 0 < y
            · have hy1 : decide (y ≤ 0) = false := decide_eq_false (by omega)
              cases k with
              | zero =>
                have HV := Lib.hid (show goodAt vs fs 0 = true by unfold goodAt; rw [HX.out.2.2, HX.out.2.1, decide_eq_true hy0]; rfl)
                clear HX hy0
                simp only [Nat.add_zero, Nat.zero_mul] at c1' d1
                go_wp2_with fail
                go_quiet ((go_at_call 64; exact Calls.quiet_of_same (HR.out _)))
                go_wp2
                go_roundw
                case rel => exact ⟨1, by omega, by go_num, Lib.hid ⟨HS.out.1.all (drewN_below _ _), fun j hj => by (have e0 : j = 0 := (by omega)); rw [e0]; exact HV.out⟩⟩
                case measure => simp [intOf]; omega
              | succ k =>
                obtain ⟨g', off', e1, c2'⟩ := HS.out.1.val.at (show k < m by omega)
                simp only [Option.some.injEq, Addr.mk.injEq] at e1
                obtain ⟨rfl, rfl, _⟩ := e1
                obtain ⟨u, hu⟩ : ∃ u, vs.getD k 0 = u := ⟨_, rfl⟩
                rw [hu] at c2'
                have hs : IntKind.i64.wrap (k:Int) = (k:Int) := IntWalk.i64_in _ (by omega)
                have hkk0 : (0:Int) ≤ (k:Int) := by omega
                have hkkl : (k:Int) < (m:Int) := by omega
                have hkl2 : (k:Int) + 1 < (m:Int) := by omega
                have hkp : decide ((0:Int) < (k:Int) + 1) = true := decide_eq_true (by omega)
                have hk10 : (0:Int) ≤ (k:Int) + 1 := by omega
                have hs3 : ((k:Int) + 1).toNat = k + 1 := by omega
                have HU := Lib.hid hu
                clear hu
                by_cases hux : u < x
                · have hxu : decide (x ≤ u) = false := decide_eq_false (by omega)
                  have HV := Lib.hid (show goodAt vs fs (k + 1) = true by unfold goodAt; rw [HX.out.2.2, HX.out.2.1, decide_eq_true hy0, Nat.add_sub_cancel, HU.out, HX.out.1, decide_eq_true hux, Bool.or_true]; rfl)
                  clear HX hy0 hux HU
                  go_wp2_with fail
                  go_quiet ((go_at_call 64; exact Calls.quiet_of_same (HR.out _)))
                  go_wp2
                  go_roundw
                  case rel => exact ⟨k + 1 + 1, by omega, by go_num, Lib.hid ⟨HS.out.1.all (drewN_below _ _), fun j hj => by
                    rcases Nat.lt_or_ge j (k + 1) with h | h
                    · exact HS.out.2 j h
                    · obtain rfl : j = k + 1 := by omega
                      exact HV.out⟩⟩
                  case measure => simp [intOf]; omega
                · have hxu : decide (x ≤ u) = true := decide_eq_true (by omega)
                  have HV := Lib.hid (show lawOk vs fs m m = false by rw [HL.out, allB_no hlt (show goodAt vs fs (k + 1) = false by unfold goodAt; rw [HX.out.2.2, HX.out.2.1, decide_eq_true hy0, Nat.add_sub_cancel, HU.out, HX.out.1, decide_eq_false hux, decide_eq_false (show ¬ k + 1 = 0 by omega)]; rfl)]; rfl)
                  clear HX hy0 hux HU
                  go_wp2_with fail
                  go_quiet ((go_at_call 64; exact Calls.quiet_of_same (HR.out _)))
                  go_wp2
                  go_ret
                  exact ⟨by rw [HV.out]; rfl, bthen HS.out.1.bel (drewN_below _ _)⟩
            · have hy1 : decide (y ≤ 0) = true := decide_eq_true (by omega)
              have HV := Lib.hid (show lawOk vs fs m m = false by rw [HL.out, allB_no hlt (show goodAt vs fs k = false by unfold goodAt; rw [HX.out.2.2, HX.out.2.1, decide_eq_false hy0]; rfl)]; rfl)
              clear HX hy0
              go_wp2_with fail
              go_quiet ((go_at_call 64; exact Calls.quiet_of_same (HR.out _)))
              go_wp2
              go_ret
              exact ⟨by rw [HV.out]; rfl, bthen HS.out.1.bel (drewN_below _ _)⟩
        · obtain rfl : k = m := by omega
          have HL2 := Lib.hid (show lawOk vs fs k k = (sumOk fs k && decide (sumR fs k = 1)) by rw [HL.out, allB_of HS.out.2]; rfl)
          cases hs : sumOk fs k with
          | false =>
            have HV := Lib.hid (show lawOk vs fs k k = false by rw [HL2.out, hs]; rfl)
            rw [show sumFV fs k = zeroF by unfold sumFV; rw [hs]; rfl] at HS6
            unfold zeroF at HS6
            clear hs HL HL2
            go_wp2_with fail
            refine (HS6.out _ HS.out.1.cha).mono ?_
            rintro e w8 ⟨rfl, hb⟩
            have H8 := Lib.hid (HS.out.1.all hb)
            clear hb z0 z1 z2 z3 z4
            go_wp2
            go_ret
            exact ⟨by rw [HV.out]; rfl, bthen H8.out.bel ((Below.refl _ w8).alloc (Nat.le_refl _) _)⟩
          | true =>
            have hfit := sumOk_le hs (Nat.le_refl k)
            rw [show sumFV fs k = .tuple #[.agg #[.int .i64 (sumR fs k).num, .int .i64 ((sumR fs k).den : Nat)], .bool true] by unfold sumFV; rw [hs, if_pos rfl, fracV_yes hfit]] at HS6
            have HV := Lib.hid (show lawOk vs fs k k = (decide ((sumR fs k).num = 1) && decide ((sumR fs k).den = 1)) by rw [HL2.out, hs, Bool.true_and, ← Bool.decide_and]; exact decide_eq_decide.2 (rat_one_iff _))
            obtain ⟨p, hp⟩ : ∃ p, (sumR fs k).num = p := ⟨_, rfl⟩
            obtain ⟨q, hq⟩ : ∃ q, (sumR fs k).den = q := ⟨_, rfl⟩
            rw [hp, hq] at HS6 HV
            clear hs hfit hp hq HL HL2
            have HV2 : lawOk vs fs k k = true ∧ p = 1 ∧ (q : Int) = 1 ∨ lawOk vs fs k k = false ∧ p = 1 ∧ ¬ (q : Int) = 1 ∨ lawOk vs fs k k = false ∧ ¬ p = 1 := by
              rw [HV.out]
              by_cases e1 : p = 1
              · by_cases e2 : q = 1
                · exact Or.inl ⟨by rw [decide_eq_true e1, decide_eq_true e2]; rfl, e1, by omega⟩
                · exact Or.inr (Or.inl ⟨by rw [decide_eq_false e2, Bool.and_false], e1, by omega⟩)
              · exact Or.inr (Or.inr ⟨by rw [decide_eq_false e1, Bool.false_and], e1⟩)
            clear HV
            rcases HV2 with ⟨hv, e1, e2⟩ | ⟨hv, e1, e2⟩ | ⟨hv, e1⟩
            all_goals
              have HV := Lib.hid hv
              clear hv
              go_wp2_with fail
              refine (HS6.out _ HS.out.1.cha).mono ?_
              rintro e w8 ⟨rfl, hb⟩
              have H8 := Lib.hid (HS.out.1.all hb)
              clear hb z0 z1 z2 z3 z4
              go_wp2
              go_ret
              exact ⟨by rw [HV.out]; rfl, bthen H8.out.bel ((Below.refl _ w8).alloc (Nat.le_refl _) _)⟩
  · have HV := Lib.hid (show lawOk vs fs n m = false by rw [HG.out, HI.out, decide_eq_false g3]; rfl)
    have hne : ((m : Int) != (n : Int)) = true := by simp; omega
    have hne2 : ((m : Int) == (n : Int)) = false := by rw [beq_eq_false_iff_ne]; omega
    have hne3 : (m == n) = false := by rw [beq_eq_false_iff_ne]; exact g3
    go_enter Tryz.func25, Tryz.ntmps25
    go_wp2
    go_ret
    exact ⟨by rw [HV.out]; rfl, Below.refl _ _⟩
end Go.Proofs.YtaneocedklnajaaGreat

import Derived.Test.YtpineiocjaajnaaGreatDoorLawH
import Derived.Test.YtpineiocjaajnaaGreatDoorLevX
import Derived.Test.YtpineiocjaajnaaGreatDoorRuns
/- The levels of bits: the program and the reference. Condition: the text is shorter than the model's greatest length. -/
namespace Go.Proofs.YtpineiocjaajnaaGreatDoor
open Go.RowKit
set_option linter.unusedVariables false

/-- The ones among the first i bits. -/
def onC (s : ByteArray) : Nat → Nat
  | 0 => 0
  | i + 1 => onC s i + (if by8 s i == 49 then 1 else 0)
theorem onC_le (s : ByteArray) : ∀ i, onC s i ≤ i
  | 0 => Nat.le_refl _
  | i + 1 => by have := onC_le s i; rw [onC]; split <;> omega
theorem onC_count (s : ByteArray) : ∀ i, i ≤ s.data.toList.length → (s.data.toList.take i).count 49 = onC s i
  | 0, _ => rfl
  | i + 1, h => by
    have e : s.data.toList.take (i + 1) = s.data.toList.take i ++ [by8 s i] := by
      rw [List.take_succ_eq_append_getElem (by omega)]
      simp only [by8, List.getD, List.getElem?_eq_getElem (show i < s.data.toList.length by omega), Option.getD_some]
    rw [e, List.count_append, onC_count s i (by omega), onC]
    congr 1
    cases hb : (by8 s i == 49) with
    | true => rw [show by8 s i = 49 from by simpa using hb]; rfl
    | false => simp [List.count_cons, hb]
theorem onC_all (s : ByteArray) : Lib.countByte s.data.toList 49 = onC s s.size := by
  have e : s.data.toList.length = s.size := Array.length_toList
  have h := onC_count s s.size (by omega)
  rw [List.take_of_length_le (by omega)] at h
  exact h
theorem l01Ones_any (s : ByteArray) (w : World) (hs : s.size ≤ 400) (hb : isB s = true) : Calls Tryz.prog 44 #[.string s] w fun e w' => e = .returned (.int .i64 ((onC s s.size : Nat) : Int)) ∧ w' = w := by
  have hle := onC_le s
  go_enter Tryz.func44, Tryz.ntmps44
  go_wp2
  go_loopw [4, 3] (fun i v wr => ∃ (m S : Nat), m ≤ s.size ∧ i = .int .i64 (m : Nat) ∧ v = .int .i64 (S : Nat) ∧ Hid (onC s m = S) ∧ wr = w) (fun i _ _ => s.size - (intOf i).toNat)
  case atStart => exact ⟨0, 0, Nat.zero_le _, rfl, rfl, Lib.hid rfl, rfl⟩
  case round =>
    obtain ⟨m, S, hm, rfl, rfl, HS, rfl⟩ := hrel
    by_cases hlt : m < s.size
    · have hm0 : (0:Int) ≤ (m:Int) := by omega
      have hmi : (m:Int) < (s.size:Int) := by omega
      obtain ⟨hb1, hb2⟩ := isB_at hb hlt
      have hSm : S ≤ m := by rw [← HS.out]; exact hle m
      have hst : onC s (m + 1) = S + (if by8 s m == 49 then 1 else 0) := by rw [onC, HS.out]
      have hbe : bitOf s m = ((if by8 s m == 49 then 1 else 0 : Nat) : Int) := by
        unfold bitOf
        by_cases h : by8 s m = 49
        · rw [if_pos h, h]; rfl
        · rw [if_neg h, if_neg (by simpa using h)]; rfl
      have hgb := get_by8 s m hlt
      obtain ⟨bt, hbt⟩ : ∃ b : Nat, (if by8 s m == 49 then 1 else 0 : Nat) = b := ⟨_, rfl⟩
      rw [hbt] at hst hbe
      rw [hbe] at hb1 hb2
      have hx : (((s[m]'hlt).toNat : Nat) : Int) = 48 + (bt : Int) := by rw [hgb]; exact hb1
      have hbt1 : bt ≤ 1 := by omega
      have HS2 := Lib.hid hst
      clear hst hbe hb1 hgb hbt hle hb2
      go_wp2
      go_roundw
      case rel => exact ⟨m + 1, S + bt, by omega, by go_num, by go_num, HS2, trivial⟩
      case measure => simp [intOf]; omega
    · obtain rfl : m = s.size := by omega
      go_wp2
      go_ret
      exact ⟨by rw [HS.out]; rfl, rfl⟩
def frac2 (r : Rat) : Int × Int := if fitR r then (r.num, (r.den : Nat)) else (0, 0)
theorem fracV_two (r : Rat) : fracV r = .tuple #[.agg #[.int .i64 (frac2 r).1, .int .i64 (frac2 r).2], .bool (fitR r)] := by
  unfold fracV frac2
  cases fitR r <;> rfl
/-- The level of a value of a law. -/
def lvR (V F : List Int) (v : Int) : Rat := pickR F (lvQ F (chP V F V.length v).1 (chP V F V.length v).2) V.length
/-- A function that gives a law. -/
def LwC (f : Nat) (k : Int) (N : Nat) (V F : List Int) : Prop := ∀ w, Calls Tryz.prog f #[.int .i64 k] w fun e w' => ∃ a1 c1 a2 c2, e = .returned (.agg #[.slice a1 N c1, .slice a2 N c2]) ∧ (IsInts w' a1 N V ∧ IsInts w' a2 (N * 2) F) ∧ Below w.heap.size w w'
theorem lwC_of {f : Nat} {k : Int} {V F : List Int} (h : ∀ w, Calls Tryz.prog f #[.int .i64 k] w (RetLw w V F)) : LwC f k V.length V F := fun w => (h w).mono (by
  rintro e w' ⟨V', C', rfl, hl, hb⟩
  obtain ⟨a1, c1, rfl⟩ := own_shape hl.val
  obtain ⟨a2, c2, rfl⟩ := own_shape hl.cha
  exact ⟨a1, c1, a2, c2, rfl, ⟨IsInts.of_own hl.val, IsInts.of_own2 hl.cha⟩, hb⟩)
/-- A function that gives the level of a value of a law. -/
def LvC (f : Nat) (N : Nat) (V F : List Int) (v p q : Int) (b : Bool) : Prop := ∀ w a1 a2 c1 c2, IsInts w a1 N V → IsInts w a2 (N * 2) F → Calls Tryz.prog f #[.agg #[.slice a1 N c1, .slice a2 N c2], .int .i64 v] w fun e w' => e = .returned (.tuple #[.agg #[.int .i64 p, .int .i64 q], .bool b]) ∧ Below w.heap.size w w'
theorem lvC_impl {V F : List Int} (v : Int) (h : LawQ V F V.length) : LvC 53 V.length V F v (frac2 (lvR V F v)).1 (frac2 (lvR V F v)).2 (fitR (lvR V F v)) := fun w a1 a2 c1 c2 h1 h2 => by
  rw [← fracV_two]
  exact level_any a1 a2 V.length c1 c2 V F v w h h1 h2
theorem lvC_spec {V F : List Int} (v : Int) (h : LawQ V F V.length) : LvC 71 V.length V F v (frac2 (lvR V F v)).1 (frac2 (lvR V F v)).2 (fitR (lvR V F v)) := fun w a1 a2 c1 c2 h1 h2 => by
  rw [← fracV_two]
  have := specLevelOf_any a1 a2 V.length V.length c1 c2 V F v w (by have := h.n64; omega) (by have := h.n64; omega) h1 h2
  unfold lrV at this
  rw [lawOk_of rfl h, if_pos rfl] at this
  exact this
def tlOk (s : ByteArray) : Bool := isB s && inR (s.size : Nat) 1 50
def tl1 (s : ByteArray) : Rat := lvR (onV s.size) (onF s.size) ((onC s s.size : Nat) : Int)
def tl2 (s : ByteArray) : Rat := lvR (ruV s.size) (ruF s.size) (((rnL (begS s) s.size).length : Nat) : Int)
def tl3 (s : ByteArray) : Rat := lvR (ltV s.size) (ltF s.size) (mxF (rnL (begS s) s.size) (rnL (begS s) s.size).length)
def tlF (s : ByteArray) : List Int := if tlOk s then [(frac2 (tl1 s)).1, (frac2 (tl1 s)).2, (frac2 (tl2 s)).1, (frac2 (tl2 s)).2, (frac2 (tl3 s)).1, (frac2 (tl3 s)).2] else []
def tlN (s : ByteArray) : Nat := if tlOk s then 3 else 0
/-- What both answer. -/
def RetFr (w : World) (ok : Bool) (n : Nat) (zs : List Int) (e : Ending) (w' : World) : Prop := ∃ a c, e = .returned (.tuple #[.slice a n c, .bool ok]) ∧ w'.ownsRow w.heap.size 44 2 (.slice a n c) n (zs.map (Value.int .i64)) ∧ Below w.heap.size w w'
theorem retFr_no {w w' : World} (hb : Below w.heap.size w w') : RetFr w false 0 [] (.returned (.tuple #[.slice none 0 0, .bool false])) w' := ⟨none, 0, rfl, ⟨rfl, Or.inl ⟨rfl, rfl⟩⟩, hb⟩
theorem own_three {w w' : World} (hb : Below w.heap.size w w') (p1 q1 p2 q2 p3 q3 : Int) : (w'.alloc (.cells #[.int .i64 p1, .int .i64 q1, .int .i64 p2, .int .i64 q2, .int .i64 p3, .int .i64 q3] 44)).ownsRow w.heap.size 44 2 (.slice (some ⟨w'.heap.size, 0, none⟩) 3 3) 3 ([p1, q1, p2, q2, p3, q3].map (Value.int .i64)) ∧ Below w.heap.size w (w'.alloc (.cells #[.int .i64 p1, .int .i64 q1, .int .i64 p2, .int .i64 q2, .int .i64 p3, .int .i64 q3] 44)) :=
  ⟨⟨rfl, Or.inr ⟨w'.heap.size, 3, _, rfl, hb.size, heap_at_new _ _, Nat.le_refl _, by unfold maxLen; omega, rfl, rfl⟩⟩, hb.alloc hb.size _⟩
/-- All that the walks need of a text of bits. -/
structure TlC (s : ByteArray) (n N1 N2 N3 R : Nat) (V1 F1 V2 F2 V3 F3 : List Int) (v1 v2 v3 p1 q1 p2 q2 p3 q3 : Int) (b1 b2 b3 : Bool) : Prop where
  hn : s.size = n
  s4 : s.size ≤ 400
  isb : isB s = true
  fair : inR (n : Nat) 1 50 = true
  e1 : ((onC s s.size : Nat) : Int) = v1
  e2 : ((R : Nat) : Int) = v2
  e3 : mxF (rnL (begS s) s.size) (rnL (begS s) s.size).length = v3
  r : (rnL (begS s) s.size).length = R
  l1 : LwC 28 (n : Nat) N1 V1 F1
  l2 : LwC 29 (n : Nat) N2 V2 F2
  l3 : LwC 30 (n : Nat) N3 V3 F3
  k1 : LwC 72 (n : Nat) N1 V1 F1
  k2 : LwC 73 (n : Nat) N2 V2 F2
  k3 : LwC 74 (n : Nat) N3 V3 F3
  c1 : LvC 53 N1 V1 F1 v1 p1 q1 b1
  c2 : LvC 53 N2 V2 F2 v2 p2 q2 b2
  c3 : LvC 53 N3 V3 F3 v3 p3 q3 b3
  d1 : LvC 71 N1 V1 F1 v1 p1 q1 b1
  d2 : LvC 71 N2 V2 F2 v2 p2 q2 b2
  d3 : LvC 71 N3 V3 F3 v3 p3 q3 b3
theorem tlC (s : ByteArray) (h : tlOk s = true) : ∃ n N1 N2 N3 R V1 F1 V2 F2 V3 F3 v1 v2 v3 p1 q1 p2 q2 p3 q3 b1 b2 b3, TlC s n N1 N2 N3 R V1 F1 V2 F2 V3 F3 v1 v2 v3 p1 q1 p2 q2 p3 q3 b1 b2 b3 ∧ tlF s = [p1, q1, p2, q2, p3, q3] := by
  have h' := h
  unfold tlOk at h'
  simp only [Bool.and_eq_true] at h'
  have hr := h'.2
  simp only [inR, Bool.and_eq_true, decide_eq_true_eq] at hr
  have h1 : 1 ≤ s.size := by omega
  have h2 : s.size ≤ 50 := by omega
  refine ⟨s.size, _, _, _, _, onV s.size, onF s.size, ruV s.size, ruF s.size, ltV s.size, ltF s.size, _, _, _, _, _, _, _, _, _, _, _, _, ⟨rfl, isB_size h'.1, h'.1, h'.2, rfl, rfl, rfl, rfl,
    lwC_of (fun w => onesLaw_of lawOfC s.size w h2), lwC_of (fun w => runsLaw_of lawOfC s.size w h2 h1), lwC_of (fun w => longestLaw_of lawOfC s.size w h2 h1),
    lwC_of (fun w => l05Ones_any s.size w h2), lwC_of (fun w => l05Runs_any s.size w h2 h1), lwC_of (fun w => l05Longest_any s.size w h2 h1),
    lvC_impl _ (onQ h2), lvC_impl _ (ruQ h2 h1), lvC_impl _ (loQ h2 h1), lvC_spec _ (onQ h2), lvC_spec _ (ruQ h2 h1), lvC_spec _ (loQ h2 h1)⟩, ?_⟩
  unfold tlF
  rw [h, if_pos rfl]
  rfl
set_option maxRecDepth 20000 in
set_option maxHeartbeats 1600000 in
theorem testLevels_any (s : ByteArray) (w : World) (hs : s.size ≤ maxLen) : Calls Tryz.prog 21 #[.string s] w (RetFr w (tlOk s) (tlN s) (tlF s)) := by
  cases hok : tlOk s with
  | false =>
    have e1 : tlN s = 0 := by unfold tlN; rw [hok]; rfl
    have e2 : tlF s = [] := by unfold tlF; rw [hok]; rfl
    rw [e1, e2]
    unfold tlOk at hok
    obtain ⟨n, hn⟩ : ∃ n, s.size = n := ⟨_, rfl⟩
    cases hb : isB s with
    | false =>
      have HB := Lib.hid hb
      clear hok e1 e2 hb
      go_enter Tryz.func21, Tryz.ntmps21
      go_wp2_with fail
      refine (isBits_any s _ hs).mono ?_
      rintro e w1 ⟨rfl, hb1⟩
      rw [HB.out]
      go_wp2_with fail
      go_ret2
      exact retFr_no hb1
    | true =>
      rw [hb, Bool.true_and, hn] at hok
      have HB := Lib.hid (And.intro hb hok)
      have HN := Lib.hid hn
      clear hok e1 e2 hb hn
      go_enter Tryz.func21, Tryz.ntmps21
      go_wp2_with fail
      refine (isBits_any s _ hs).mono ?_
      rintro e w1 ⟨rfl, hb1⟩
      rw [HB.out.1, HN.out]
      go_wp2_with fail
      refine (isFair_any _ _).mono ?_
      rintro e w2 ⟨rfl, rfl⟩
      rw [HB.out.2]
      go_wp2_with fail
      go_ret2
      exact retFr_no hb1
  | true =>
    have e1 : tlN s = 3 := by unfold tlN; rw [hok]; rfl
    obtain ⟨n, N1, N2, N3, R, V1, F1, V2, F2, V3, F3, v1, v2, v3, p1, q1, p2, q2, p3, q3, b1, b2, b3, hC, e2⟩ := tlC s hok
    rw [e1, e2]
    have HC := Lib.hid hC
    have HR := Lib.hid (fun w => runs_any s w hC.s4)
    have HM := Lib.hid (fun w => longestRun_any s w hC.s4)
    clear hok e1 e2 hC
    go_enter Tryz.func21, Tryz.ntmps21
    go_wp2_with fail
    refine (isBits_any s _ hs).mono ?_
    rintro e w1 ⟨rfl, hb1⟩
    rw [HC.out.isb, HC.out.hn]
    have H1 := Lib.hid hb1
    clear hb1
    go_wp2_with fail
    refine (isFair_any _ _).mono ?_
    rintro e w2 ⟨rfl, rfl⟩
    rw [HC.out.fair]
    go_wp2_with fail
    refine (HC.out.l1 _).mono ?_
    rintro e w2 ⟨a1, k1, a2, k2, rfl, hi, hb⟩
    have H2 := Lib.hid (And.intro hi (bthen H1.out hb))
    clear hi hb H1
    go_wp2_with fail
    refine (Tryz.strings_Count_one s 49 _).mono ?_
    rintro e w' ⟨rfl, rfl⟩
    rw [onC_all, HC.out.e1]
    go_wp2_with fail
    refine (HC.out.c1 _ _ _ _ _ H2.out.1.1 H2.out.1.2).mono ?_
    rintro e w3 ⟨rfl, hb⟩
    have hb3 : Below w3.heap.size w3 (w3.alloc (.cells #[.int .i64 p1, .int .i64 q1] 44)) := (Below.refl _ _).alloc (Nat.le_refl _) _
    have H3 := Lib.hid (And.intro (C2.new w3 44 (.int .i64 p1) (.int .i64 q1)) (bthen (bthen H2.out.2 hb) hb3))
    clear hb hb3 H2
    go_wp2_with fail
    obtain ⟨g3, hg3⟩ : ∃ b, w3.heap.size = b := ⟨_, rfl⟩
    obtain ⟨wA, hwA⟩ : ∃ w', w3.alloc (.cells #[.int .i64 p1, .int .i64 q1] 44) = w' := ⟨_, rfl⟩
    rw [hwA, hg3] at H3
    rw [hwA]
    try rw [hg3]
    clear hwA hg3
    refine (HC.out.l2 _).mono ?_
    rintro e w4 ⟨a3, k3, a4, k4, rfl, hi, hb⟩
    have H4 := Lib.hid (And.intro hi (And.intro (H3.out.1.all hb) (bthen H3.out.2 hb)))
    clear hi hb H3
    go_wp2_with fail
    refine (HR.out _).mono ?_
    rintro e w5 ⟨a5, k5, rfl, hown, hb⟩
    rw [HC.out.r]
    have H5 := Lib.hid (And.intro (And.intro (H4.out.1.1.below hb) (H4.out.1.2.below hb)) (And.intro (H4.out.2.1.all hb) (bthen H4.out.2.2 hb)))
    clear hown hb H4
    go_wp2_with fail
    refine (length_any _ _ _ _).mono ?_
    rintro e w' ⟨rfl, rfl⟩
    rw [HC.out.e2]
    go_wp2_with fail
    refine (HC.out.c2 _ _ _ _ _ H5.out.1.1 H5.out.1.2).mono ?_
    rintro e w6 ⟨rfl, hb⟩
    have hb6 : Below w6.heap.size w6 (w6.alloc (.cells #[.int .i64 p2, .int .i64 q2] 44)) := (Below.refl _ _).alloc (Nat.le_refl _) _
    have hbb := bthen hb hb6
    have H6 := Lib.hid (And.intro (C2.new w6 44 (.int .i64 p2) (.int .i64 q2)) (And.intro (H5.out.2.1.all hbb) (bthen H5.out.2.2 hbb)))
    clear hb hb6 hbb H5
    go_wp2_with fail
    obtain ⟨g6, hg6⟩ : ∃ b, w6.heap.size = b := ⟨_, rfl⟩
    obtain ⟨wB, hwB⟩ : ∃ w', w6.alloc (.cells #[.int .i64 p2, .int .i64 q2] 44) = w' := ⟨_, rfl⟩
    rw [hwB, hg6] at H6
    rw [hwB]
    try rw [hg6]
    clear hwB hg6
    refine (HC.out.l3 _).mono ?_
    rintro e w7 ⟨a6, k6, a7, k7, rfl, hi, hb⟩
    have H7 := Lib.hid (And.intro hi (And.intro (H6.out.1.all hb) (And.intro (H6.out.2.1.all hb) (bthen H6.out.2.2 hb))))
    clear hi hb H6
    go_wp2_with fail
    refine (HM.out _).mono ?_
    rintro e w8 ⟨rfl, hb⟩
    rw [HC.out.e3]
    have H8 := Lib.hid (And.intro (And.intro (H7.out.1.1.below hb) (H7.out.1.2.below hb)) (And.intro (H7.out.2.1.all hb) (And.intro (H7.out.2.2.1.all hb) (bthen H7.out.2.2.2 hb))))
    clear hb H7
    go_wp2_with fail
    refine (HC.out.c3 _ _ _ _ _ H8.out.1.1 H8.out.1.2).mono ?_
    rintro e w9 ⟨rfl, hb⟩
    have hb9 : Below w9.heap.size w9 (w9.alloc (.cells #[.int .i64 p3, .int .i64 q3] 44)) := (Below.refl _ _).alloc (Nat.le_refl _) _
    have hbb := bthen hb hb9
    have H9 := Lib.hid (And.intro (C2.new w9 44 (.int .i64 p3) (.int .i64 q3)) (And.intro (H8.out.2.1.all hbb) (And.intro (H8.out.2.2.1.all hbb) (bthen H8.out.2.2.2 hbb))))
    clear hb hb9 hbb H8
    obtain ⟨g9, hg9⟩ : ∃ b, w9.heap.size = b := ⟨_, rfl⟩
    obtain ⟨wC, hwC⟩ : ∃ w', w9.alloc (.cells #[.int .i64 p3, .int .i64 q3] 44) = w' := ⟨_, rfl⟩
    rw [hwC, hg9] at H9
    obtain ⟨x0, x1, x2, x3, x4⟩ := H9.out.1
    obtain ⟨y0, y1, y2, y3, y4⟩ := H9.out.2.1
    obtain ⟨z0, z1, z2, z3, z4⟩ := H9.out.2.2.1
    have HWC := Lib.hid (And.intro hwC hg9)
    clear hwC hg9
    go_upto_region 7 with fail
    rw [HWC.out.1]
    try rw [HWC.out.2]
    have HF := Lib.hid (own_three H9.out.2.2.2 p1 q1 p2 q2 p3 q3)
    clear H9 HWC
    go_wp2_with fail
    refine bodyPost_ret (v := .tuple #[.slice (some ⟨wC.heap.size, 0, none⟩) 3 3, .bool true]) (by simp [results, Tryz.results21, go_sem, *]) rfl ⟨_, _, rfl, HF.out.1, HF.out.2⟩
end Go.Proofs.YtpineiocjaajnaaGreatDoor

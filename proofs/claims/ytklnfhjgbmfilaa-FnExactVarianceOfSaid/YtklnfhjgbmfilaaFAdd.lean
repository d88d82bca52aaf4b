import Derived.Test.YtklnfhjgbmfilaaSplit
import Derived.Test.YtklnfhjgbmfilaaRatSpec
import Derived.Deep.CutBlock
/- The reference's sum of fractions. Condition: the fractions are valid ones. -/
namespace Go.Proofs.Ytklnfhjgbmfilaa
open Go.RowKit
set_option linter.unusedVariables false

theorem wideTimes_all (x y N : Nat) (hi lo : Int) (w : World) (hN : N ≤ w.heap.size) (hx : x < 9223372036854775808) (hy : y < 9223372036854775808) (h : wv (x * y) = .agg #[.int .u64 hi, .int .u64 lo]) :
    Calls Try.prog 88 #[.int .i64 (x : Nat), .int .i64 (y : Nat)] w fun e w' => e = .returned (.agg #[.int .u64 hi, .int .u64 lo]) ∧ Hid (Below w.heap.size w w') ∧
      (∀ b o, b < N → w'.cell? ⟨b, o, none⟩ = w.cell? ⟨b, o, none⟩) ∧ (N < w.heap.size → ∀ o, w'.cell? ⟨N, o, none⟩ = w.cell? ⟨N, o, none⟩) ∧ (N < w.heap.size → ∀ o, w'.frozen? ⟨N, o, none⟩ = w.frozen? ⟨N, o, none⟩) ∧ N ≤ w'.heap.size := by
  refine (l01Times_any x y w hx hy).mono ?_
  rintro e w' ⟨rfl, e4⟩
  exact ⟨by rw [← h]; rfl, Lib.hid e4, fun b o h => e4.cell (p := ⟨b, o, none⟩) (Nat.lt_of_lt_of_le h hN), fun h o => e4.cell (p := ⟨N, o, none⟩) h, fun h o => e4.frozen (p := ⟨N, o, none⟩) h, Nat.le_trans hN e4.size⟩
theorem wv_parts (z : Nat) : ∃ hi lo, wv z = .agg #[.int .u64 hi, .int .u64 lo] := ⟨_, _, rfl⟩
/-- The parts of a sum. -/
structure FaN (p q : Int) (b c d : Nat) : Prop where
  p : p.natAbs ≤ 1000000000000000000
  q : q.natAbs ≤ 1000000000000000000
  b0 : 0 < b
  b1 : b ≤ 1000000000000000000
  c0 : 0 < c
  c1 : c ≤ 1000000000000000000
  d : d = b.gcd c
theorem small_pair (z : Nat) (hi lo : Int) (h : wv z = .agg #[.int .u64 hi, .int .u64 lo]) : ∃ (n : Int) (ok : Bool), (∀ w, Calls Try.prog 93 #[.agg #[.int .u64 hi, .int .u64 lo]] w fun e w' => e = .returned (.tuple #[.int .i64 n, .bool ok]) ∧ Below w.heap.size w w') ∧ ok = decide (z ≤ 1000000000000000000) ∧ (ok = true → n = ((z : Nat) : Int)) := by
  by_cases k : z ≤ 1000000000000000000
  · refine ⟨(z : Int), true, fun w => ?_, by simp [k], fun _ => rfl⟩
    have := l01Small_any z w
    rw [if_pos k] at this
    rw [← h]
    exact this
  · refine ⟨0, false, fun w => ?_, by simp [k], fun e => by cases e⟩
    have := l01Small_any z w
    rw [if_neg k] at this
    rw [← h]
    exact this
theorem fa_yes {Rf : Rat} {mn : Bool} {E K : Nat} (hn : Rf.num = sgn mn E) (hd : Rf.den = K) (h1 : E ≤ 1000000000000000000) (h2 : K ≤ 1000000000000000000) : fracV Rf = .tuple #[.agg #[.int .i64 (sgn mn E), .int .i64 (K : Int)], .bool true] := by
  rw [fracV_yes (by unfold fitR; rw [hn, hd, sgn_abs, decide_eq_true h1, decide_eq_true h2]; rfl), hn, hd]
theorem fa_no {Rf : Rat} {mn : Bool} {E K : Nat} (hn : Rf.num = sgn mn E) (hd : Rf.den = K) (h : ¬ (E ≤ 1000000000000000000 ∧ K ≤ 1000000000000000000)) : fracV Rf = .tuple #[.agg #[.int .i64 0, .int .i64 0], .bool false] := by
  refine fracV_no ?_
  unfold fitR
  rw [hn, hd, sgn_abs]
  by_cases h1 : E ≤ 1000000000000000000
  · rw [decide_eq_true h1, decide_eq_false (fun h2 => h ⟨h1, h2⟩)]; rfl
  · rw [decide_eq_false h1]; rfl
theorem sgn_div (mn : Bool) (T G : Nat) (h : G ∣ T) : sgn mn T / (G : Int) = sgn mn (T / G) := by
  have hg : ((T / G : Nat) : Int) = (T : Int) / (G : Int) := by simp
  cases mn with
  | false => simp only [sgn, Bool.false_eq_true, if_false]; rw [hg]
  | true =>
    simp only [sgn, if_true]
    rw [hg, Int.neg_ediv_of_dvd (Int.ofNat_dvd.2 h)]
/-- What lies in memory ahead of the switch. -/
def Fa5 (w : World) (b7 b8 bA : Nat) (p q : Int) (b c : Nat) (xh xl yh yl : Int) (wr : World) : Prop := C2 wr w.heap.size (.int .i64 p) (.int .i64 (b : Nat)) ∧ C2 wr (w.heap.size + 1) (.int .i64 q) (.int .i64 (c : Nat)) ∧ C2 wr (w.heap.size + 1 + 1) (.int .i64 0) (.int .i64 0) ∧ Below w.heap.size w wr ∧ C2 wr b7 (.int .u64 xh) (.int .u64 xl) ∧ C2 wr b8 (.int .u64 yh) (.int .u64 yl) ∧ C2 wr bA (.int .u64 0) (.int .u64 0)
theorem Fa5.all {w wr wx : World} {b7 b8 bA : Nat} {p q : Int} {b c : Nat} {xh xl yh yl : Int} (h : Fa5 w b7 b8 bA p q b c xh xl yh yl wr) (hb : Below wr.heap.size wr wx) : Fa5 w b7 b8 bA p q b c xh xl yh yl wx :=
  ⟨h.1.all hb, h.2.1.all hb, h.2.2.1.all hb, bthen h.2.2.2.1 hb, h.2.2.2.2.1.all hb, h.2.2.2.2.2.1.all hb, h.2.2.2.2.2.2.all hb⟩
set_option maxRecDepth 20000 in
set_option maxHeartbeats 6400000 in
theorem l01FAdd_any (p q : Int) (b c : Nat) (w : World) (hp : p.natAbs ≤ 1000000000000000000) (hq : q.natAbs ≤ 1000000000000000000) (hb : 0 < b) (hb2 : b ≤ 1000000000000000000) (hc : 0 < c) (hc2 : c ≤ 1000000000000000000) (hg1 : p.natAbs.gcd b = 1) (hg2 : q.natAbs.gcd c = 1) :
    Calls Try.prog 42 #[.agg #[.int .i64 p, .int .i64 (b : Nat)], .agg #[.int .i64 q, .int .i64 (c : Nat)]] w fun e w' => e = .returned (fracV (mkRat p b + mkRat q c)) ∧ Below w.heap.size w w' := by
  obtain ⟨d, hd⟩ : ∃ d, b.gcd c = d := ⟨_, rfl⟩
  have hd0 : 0 < d := by rw [← hd]; exact Nat.gcd_pos_of_pos_left _ hb
  have hdb : d ≤ b := by rw [← hd]; exact Nat.gcd_le_left _ hb
  have HG := Lib.hid (fun (w : World) => l01Gcd_any b c w (by omega) (by omega))
  rw [hd] at HG
  obtain ⟨U, hU⟩ : ∃ U, p.natAbs = U := ⟨_, rfl⟩
  obtain ⟨V, hV⟩ : ∃ V, q.natAbs = V := ⟨_, rfl⟩
  have HM1 := Lib.hid (fun (w : World) => l00Max_abs p w (by omega) (by omega))
  have HM2 := Lib.hid (fun (w : World) => l00Max_abs q w (by omega) (by omega))
  rw [hU] at HM1
  rw [hV] at HM2
  have hwp : IntKind.i64.wrap (-p) = -p := IntWalk.i64_in _ (by omega)
  have hwq : IntKind.i64.wrap (-q) = -q := IntWalk.i64_in _ (by omega)
  obtain ⟨C, hC⟩ : ∃ C, c / d = C := ⟨_, rfl⟩
  obtain ⟨B, hB⟩ : ∃ B, b / d = B := ⟨_, rfl⟩
  have hCb : C ≤ 1000000000000000000 := by rw [← hC]; exact Nat.le_trans (Nat.div_le_self _ _) hc2
  have hBb : B ≤ 1000000000000000000 := by rw [← hB]; exact Nat.le_trans (Nat.div_le_self _ _) hb2
  have hdiv1 : (c : Int).tdiv (d : Int) = (C : Int) := by rw [← hC]; rfl
  have hdiv1' : (c : Int) / (d : Int) = (C : Int) := by rw [← hC]; simp
  have hdiv2 : (b : Int).tdiv (d : Int) = (B : Int) := by rw [← hB]; rfl
  have hdiv2' : (b : Int) / (d : Int) = (B : Int) := by rw [← hB]; simp
  have hdn : ¬ (d : Int) = 0 := by omega
  have hdn2 : ¬ d = 0 := by omega
  have hdnb : ((d : Int) == 0) = false := by rw [beq_eq_false_iff_ne]; omega
  have hwC : IntKind.i64.wrap (C : Int) = (C : Int) := IntWalk.i64_in _ (by omega)
  have hwB : IntKind.i64.wrap (B : Int) = (B : Int) := IntWalk.i64_in _ (by omega)
  obtain ⟨xh, xl, hx⟩ := wv_parts (U * C)
  obtain ⟨yh, yl, hy⟩ := wv_parts (V * B)
  have HXY := Lib.hid (And.intro hx hy)
  have HN := Lib.hid (And.intro hd (And.intro hd0 (And.intro hU (And.intro hV (And.intro hC (And.intro hB (And.intro hg1 (And.intro hg2 (And.intro hb hc)))))))))
  have hUb : U < 9223372036854775808 := by omega
  have hVb : V < 9223372036854775808 := by omega
  obtain ⟨Rf, hRf⟩ : ∃ R, mkRat p b + mkRat q c = R := ⟨_, rfl⟩
  rw [hRf]
  have HRf := Lib.hid hRf
  clear hd hU hV hC hB hx hy hg1 hg2 hp hq hRf hdb hb hc hd0
  go_enter Try.func42, Try.ntmps42
  go_wp2_with fail
  obtain ⟨t0, t1, t2⟩ := three_boxes w (.cells #[.int .i64 p, .int .i64 (b : Nat)] 33) (.cells #[.int .i64 q, .int .i64 (c : Nat)] 33) (.cells #[.int .i64 0, .int .i64 0] 33)
  have HA0 : Below w.heap.size w (((w.alloc (.cells #[.int .i64 p, .int .i64 (b : Nat)] 33)).alloc (.cells #[.int .i64 q, .int .i64 (c : Nat)] 33)).alloc (.cells #[.int .i64 0, .int .i64 0] 33)) := (((Below.refl _ w).alloc (Nat.le_refl _) _).alloc (by simp) _).alloc (by simp only [alloc_size]; omega) _
  obtain ⟨w1, hw1⟩ : ∃ w', (((w.alloc (.cells #[.int .i64 p, .int .i64 (b : Nat)] 33)).alloc (.cells #[.int .i64 q, .int .i64 (c : Nat)] 33)).alloc (.cells #[.int .i64 0, .int .i64 0] 33)) = w' := ⟨_, rfl⟩
  rw [hw1] at t0 t1 t2 HA0 ⊢
  clear hw1
  have H1 := Lib.hid (And.intro (C2.of_heap t0) (And.intro (C2.of_heap t1) (And.intro (C2.of_heap t2) HA0)))
  clear t0 t1 t2 HA0
  refine (HG.out _).mono ?_
  rintro e w2 ⟨rfl, rfl⟩
  obtain ⟨z0, z1, _, _, z4⟩ := H1.out.1
  obtain ⟨y0, y1, _, _, y4⟩ := H1.out.2.1
  have g4 : w.heap.size + 1 + 1 < w1.heap.size := H1.out.2.2.1.lt
  go_upto_region 2 with fail
  go_cut [7] (fun v7 wc => ∃ b7 : Nat, v7 = .pointer (some ⟨b7, 0, none⟩) ∧ Hid (C2 wc b7 (.int .u64 xh) (.int .u64 xl) ∧ w1.heap.size ≤ b7 ∧ Below w1.heap.size w1 wc))
  case first =>
    have hdw : w1.drew.heap.size = w1.heap.size := rfl
    have hda : ∀ o, (w1.alloc o).drew.heap.size = w1.heap.size + 1 := fun o => alloc_size w1 o
    have hds : ∀ o, (w1.drew.alloc o).heap.size = w1.heap.size + 1 := fun o => alloc_size w1.drew o
    have hn0 := World.new_ne w1 _ z0
    have hn1 := World.new_ne w1 _ y0
    simp at hn0 hn1
    go_region_held3 (fun w' => w'.cell? ⟨w.heap.size, 0, none⟩ = some (.int .i64 p) ∧ w'.cell? ⟨w.heap.size + 1, 1, none⟩ = some (.int .i64 (c : Nat)) ∧ w.heap.size < w'.heap.size ∧ w.heap.size + 1 < w'.heap.size)
      ((repeat' refine And.intro ?_ ?_) <;> first | (go_keep; done) | (go_keep; omega))
      (first
        | (go_at_call 87; refine (HM1.out _).mono ?_; rintro e w5 ⟨rfl, rfl⟩)
        | (go_at_call 88; refine (wideTimes_all U C w1.heap.size xh xl _ ?_ hUb (by omega) HXY.out.1).mono ?_; (first | exact Nat.le_refl _ | (rw [hda]; omega) | (rw [hds]; omega) | (simp; done)); rintro e w7 ⟨rfl, hX3, r0, r1, r2, r3⟩; have r00 := (fun o => r0 w.heap.size o (by omega)); have r01 := (fun o => r0 (w.heap.size + 1) o (by omega)); have r4 : w.heap.size < w7.heap.size := (by omega); have r5 : w.heap.size + 1 < w7.heap.size := (by omega); clear r0))
    all_goals (go_wp2_with fail)
    all_goals go_meet
    all_goals first
      | exact ⟨w7.heap.size, rfl, Lib.hid ⟨C2.new w7 _ _ _, r3, (bthen (Below.refl _ w1).drew hX3.out).alloc r3 _⟩⟩
      | (have hn : C2 (w1.drew.alloc (.cells #[.int .u64 0, .int .u64 0] 121)) w1.heap.size (.int .u64 0) (.int .u64 0) := C2.new w1.drew _ _ _
         have h7 : C2 w7 w1.heap.size (.int .u64 0) (.int .u64 0) := hn.below hn.lt hX3.out
         exact ⟨w1.heap.size, rfl, Lib.hid ⟨(h7.set0 _).set1 _, Nat.le_refl _, ((bthen (below_e1 w1 _) hX3.out).setCell (p := ⟨w1.heap.size, 0, none⟩) (Nat.le_refl _) _).setCell (p := ⟨w1.heap.size, 1, none⟩) (Nat.le_refl _) _⟩⟩)
  case rest =>
    obtain ⟨b7, rfl, H7⟩ := hcut
    have H2 := Lib.hid (And.intro (H1.out.1.all H7.out.2.2) (And.intro (H1.out.2.1.all H7.out.2.2) (And.intro (H1.out.2.2.1.all H7.out.2.2) (And.intro (bthen H1.out.2.2.2 H7.out.2.2) H7.out.1))))
    have hlt7 : w.heap.size + 1 + 1 < b7 := Nat.lt_of_lt_of_le g4 H7.out.2.1
    clear z0 z1 z4 y0 y1 y4 g4 H1 H7
    obtain ⟨z0, z1, _, _, z4⟩ := H2.out.1
    obtain ⟨y0, y1, _, _, y4⟩ := H2.out.2.1
    have b74 : b7 < wc.heap.size := H2.out.2.2.2.2.lt
    go_upto_region 3 with fail
    go_cut [8] (fun v8 wd => ∃ b8 : Nat, v8 = .pointer (some ⟨b8, 0, none⟩) ∧ Hid (C2 wd b8 (.int .u64 yh) (.int .u64 yl) ∧ wc.heap.size ≤ b8 ∧ Below wc.heap.size wc wd))
    case first =>
      have hdw : wc.drew.heap.size = wc.heap.size := rfl
      have hda : ∀ o, (wc.alloc o).drew.heap.size = wc.heap.size + 1 := fun o => alloc_size wc o
      have hds : ∀ o, (wc.drew.alloc o).heap.size = wc.heap.size + 1 := fun o => alloc_size wc.drew o
      have hn0 := World.new_ne wc _ z0
      have hn1 := World.new_ne wc _ y0
      simp at hn0 hn1
      go_region_held3 (fun w' => w'.cell? ⟨w.heap.size + 1, 0, none⟩ = some (.int .i64 q) ∧ w'.cell? ⟨w.heap.size, 1, none⟩ = some (.int .i64 (b : Nat)) ∧ w.heap.size < w'.heap.size ∧ w.heap.size + 1 < w'.heap.size)
        ((repeat' refine And.intro ?_ ?_) <;> first | (go_keep; done) | (go_keep; omega))
        (first
          | (go_at_call 87; refine (HM2.out _).mono ?_; rintro e w5 ⟨rfl, rfl⟩)
          | (go_at_call 88; refine (wideTimes_all V B wc.heap.size yh yl _ ?_ hVb (by omega) HXY.out.2).mono ?_; (first | exact Nat.le_refl _ | (rw [hda]; omega) | (rw [hds]; omega) | (simp; done)); rintro e w7 ⟨rfl, hX3, r0, r1, r2, r3⟩; have r00 := (fun o => r0 w.heap.size o (by omega)); have r01 := (fun o => r0 (w.heap.size + 1) o (by omega)); have r4 : w.heap.size < w7.heap.size := (by omega); have r5 : w.heap.size + 1 < w7.heap.size := (by omega); clear r0))
      all_goals (go_wp2_with fail)
      all_goals go_meet
      all_goals first
        | exact ⟨w7.heap.size, rfl, Lib.hid ⟨C2.new w7 _ _ _, r3, (bthen (Below.refl _ wc).drew hX3.out).alloc r3 _⟩⟩
        | (have hn : C2 (wc.drew.alloc (.cells #[.int .u64 0, .int .u64 0] 121)) wc.heap.size (.int .u64 0) (.int .u64 0) := C2.new wc.drew _ _ _
           have h7 : C2 w7 wc.heap.size (.int .u64 0) (.int .u64 0) := hn.below hn.lt hX3.out
           exact ⟨wc.heap.size, rfl, Lib.hid ⟨(h7.set0 _).set1 _, Nat.le_refl _, ((bthen (below_e1 wc _) hX3.out).setCell (p := ⟨wc.heap.size, 0, none⟩) (Nat.le_refl _) _).setCell (p := ⟨wc.heap.size, 1, none⟩) (Nat.le_refl _) _⟩⟩)
    case rest =>
      obtain ⟨b8, rfl, H8⟩ := hcut
      have H3 := Lib.hid (And.intro (H2.out.1.all H8.out.2.2) (And.intro (H2.out.2.1.all H8.out.2.2) (And.intro (H2.out.2.2.1.all H8.out.2.2) (And.intro (bthen H2.out.2.2.2.1 H8.out.2.2) (And.intro (H2.out.2.2.2.2.all H8.out.2.2) H8.out.1)))))
      have hlt8 : b7 < b8 := Nat.lt_of_lt_of_le b74 H8.out.2.1
      clear z0 z1 z4 y0 y1 y4 b74 H2 H8
      obtain ⟨z0, z1, _, _, z4⟩ := H3.out.1
      go_upto_block 0 with fail
      have hbw : Below wc.heap.size wc (wc.alloc (.cells #[.int .u64 0, .int .u64 0] 121)) := (Below.refl _ wc).alloc (Nat.le_refl _) _
      have hnw := C2.new wc 121 (.int .u64 0) (.int .u64 0)
      have hlt9 : b8 < wc.heap.size := H3.out.2.2.2.2.2.lt
      obtain ⟨we, hwe⟩ : ∃ w', wc.alloc (.cells #[.int .u64 0, .int .u64 0] 121) = w' := ⟨_, rfl⟩
      rw [hwe] at hbw hnw ⊢
      have H5a := Lib.hid (And.intro (H3.out.1.all hbw) (And.intro (H3.out.2.1.all hbw) (And.intro (H3.out.2.2.1.all hbw) (And.intro (bthen H3.out.2.2.2.1 hbw) (And.intro (H3.out.2.2.2.2.1.all hbw) (And.intro (H3.out.2.2.2.2.2.all hbw) hnw))))))
      obtain ⟨bA, hbA⟩ : ∃ b, wc.heap.size = b := ⟨_, rfl⟩
      rw [hbA] at H5a hlt9 ⊢
      have H5 := Lib.hid (show Fa5 w b7 b8 bA p q b c xh xl yh yl we from H5a.out)
      clear H5a
      clear z0 z1 z4 hwe hbw hnw hbA H3
      go_cut [9, 10] (fun v9 v10 wf => v10 = .pointer (some ⟨bA, 0, none⟩) ∧ ∃ (mn : Bool) (T : Nat) (th tl : Int), v9 = .bool mn ∧ Hid (wv T = .agg #[.int .u64 th, .int .u64 tl] ∧ T < 2 ^ 127 ∧ p * (C : Int) + q * (B : Int) = sgn mn T ∧ C2 wf bA (.int .u64 th) (.int .u64 tl) ∧ C2 wf w.heap.size (.int .i64 p) (.int .i64 (b : Nat)) ∧ C2 wf (w.heap.size + 1) (.int .i64 q) (.int .i64 (c : Nat)) ∧ C2 wf (w.heap.size + 1 + 1) (.int .i64 0) (.int .i64 0) ∧ Below w.heap.size w wf))
      case first =>
        have hXb : U * C < 2 ^ 126 := Nat.lt_of_lt_of_le (Nat.mul_lt_mul'' hUb (show C < 9223372036854775808 by omega)) (by decide)
        have hYb : V * B < 2 ^ 126 := Nat.lt_of_lt_of_le (Nat.mul_lt_mul'' hVb (show B < 9223372036854775808 by omega)) (by decide)
        obtain ⟨ph, pl, hpl⟩ := wv_parts (U * C + V * B)
        obtain ⟨mh, ml, hml⟩ := wv_parts (U * C - V * B)
        obtain ⟨nh, nl, hnl⟩ := wv_parts (V * B - U * C)
        have HP := Lib.hid (fun (w : World) => l01Plus_any (U * C) (V * B) w hXb hYb)
        have HMi := Lib.hid (fun (h : V * B ≤ U * C) (w : World) => l01Minus_any (U * C) (V * B) w (by omega) h)
        have HNi := Lib.hid (fun (h : U * C ≤ V * B) (w : World) => l01Minus_any (V * B) (U * C) w (by omega) h)
        have HLe := Lib.hid (fun (w : World) => l01Less_any (U * C) (V * B) w)
        rw [HXY.out.1, HXY.out.2, hpl] at HP
        rw [HXY.out.1, HXY.out.2, hml] at HMi
        rw [HXY.out.1, HXY.out.2, hnl] at HNi
        rw [HXY.out.1, HXY.out.2] at HLe
        have HW := Lib.hid (And.intro hpl (And.intro hml (And.intro hnl (And.intro hXb hYb))))
        have HS := Lib.hid (And.intro (fun h => add_same (p := p) (q := q) (d := B) (e := C) h) (And.intro (fun h k => add_ge (p := p) (q := q) (d := B) (e := C) h k) (fun h k => add_lt (p := p) (q := q) (d := B) (e := C) h k)))
        rw [HN.out.2.2.1, HN.out.2.2.2.1] at HS
        clear hXb hYb hpl hml hnl
        by_cases hpn : p < 0
        · have hpd := decide_eq_true hpn
          by_cases hqn : q < 0
          · have hqd := decide_eq_true hqn
            obtain ⟨x0, x1, _, _, _⟩ := H5.out.2.2.2.2.1
            obtain ⟨y0, y1, _, _, _⟩ := H5.out.2.2.2.2.2.1
            obtain ⟨p0, p1, _, _, _⟩ := H5.out.1
            obtain ⟨q0, q1, _, _, _⟩ := H5.out.2.1
            obtain ⟨g0, g1, g2, g3, _⟩ := H5.out.2.2.2.2.2.2
            go_wp2_with fail
            refine (HP.out _).mono ?_
            rintro e wg ⟨rfl, hbg⟩
            have H6 := Lib.hid (H5.out.all hbg)
            clear x0 x1 y0 y1 p0 p1 q0 q1 g0 g1 g2 g3
            clear hbg
            obtain ⟨x0, x1, _, _, _⟩ := H6.out.2.2.2.2.1
            obtain ⟨y0, y1, _, _, _⟩ := H6.out.2.2.2.2.2.1
            obtain ⟨p0, p1, _, _, _⟩ := H6.out.1
            obtain ⟨q0, q1, _, _, _⟩ := H6.out.2.1
            obtain ⟨g0, g1, g2, g3, _⟩ := H6.out.2.2.2.2.2.2
            go_wp2_with fail
            go_meet
            exact ⟨rfl, true, U * C + V * B, ph, pl, rfl, Lib.hid ⟨HW.out.1, by have := HW.out.2.2.2; omega, by rw [HS.out.1 (by rw [hpd, hqd]), hpd], (H6.out.2.2.2.2.2.2.set0 _).set1 _, (H6.out.1.other (by omega) _).other (by omega) _, (H6.out.2.1.other (by omega) _).other (by omega) _, (H6.out.2.2.1.other (by omega) _).other (by omega) _, (H6.out.2.2.2.1.setCell (p := ⟨bA, 0, none⟩) (by show w.heap.size ≤ bA; omega) _).setCell (p := ⟨bA, 1, none⟩) (by show w.heap.size ≤ bA; omega) _⟩⟩
          · have hqd := decide_eq_false hqn
            obtain ⟨x0, x1, _, _, _⟩ := H5.out.2.2.2.2.1
            obtain ⟨y0, y1, _, _, _⟩ := H5.out.2.2.2.2.2.1
            obtain ⟨p0, p1, _, _, _⟩ := H5.out.1
            obtain ⟨q0, q1, _, _, _⟩ := H5.out.2.1
            obtain ⟨g0, g1, g2, g3, _⟩ := H5.out.2.2.2.2.2.2
            go_wp2_with fail
            refine (HLe.out _).mono ?_
            rintro e wg ⟨rfl, hbg⟩
            have H6 := Lib.hid (H5.out.all hbg)
            clear x0 x1 y0 y1 p0 p1 q0 q1 g0 g1 g2 g3
            clear hbg
            obtain ⟨x0, x1, _, _, _⟩ := H6.out.2.2.2.2.1
            obtain ⟨y0, y1, _, _, _⟩ := H6.out.2.2.2.2.2.1
            obtain ⟨p0, p1, _, _, _⟩ := H6.out.1
            obtain ⟨q0, q1, _, _, _⟩ := H6.out.2.1
            obtain ⟨g0, g1, g2, g3, _⟩ := H6.out.2.2.2.2.2.2
            by_cases hle : U * C < V * B
            · have hld := decide_eq_true hle
              rw [hld]
              go_wp2_with fail
              refine (HNi.out (by omega) _).mono ?_
              rintro e wh ⟨rfl, hbg⟩
              have H7 := Lib.hid (H6.out.all hbg)
              clear x0 x1 y0 y1 p0 p1 q0 q1 g0 g1 g2 g3
              clear hbg
              obtain ⟨x0, x1, _, _, _⟩ := H7.out.2.2.2.2.1
              obtain ⟨y0, y1, _, _, _⟩ := H7.out.2.2.2.2.2.1
              obtain ⟨p0, p1, _, _, _⟩ := H7.out.1
              obtain ⟨q0, q1, _, _, _⟩ := H7.out.2.1
              obtain ⟨g0, g1, g2, g3, _⟩ := H7.out.2.2.2.2.2.2
              go_wp2_with fail
              go_meet
              exact ⟨rfl, false, V * B - U * C, nh, nl, rfl, Lib.hid ⟨HW.out.2.2.1, by have := HW.out.2.2.2; omega, by rw [HS.out.2.2 (by rw [hpd, hqd]; decide) hle, hqd], (H7.out.2.2.2.2.2.2.set0 _).set1 _, (H7.out.1.other (by omega) _).other (by omega) _, (H7.out.2.1.other (by omega) _).other (by omega) _, (H7.out.2.2.1.other (by omega) _).other (by omega) _, (H7.out.2.2.2.1.setCell (p := ⟨bA, 0, none⟩) (by show w.heap.size ≤ bA; omega) _).setCell (p := ⟨bA, 1, none⟩) (by show w.heap.size ≤ bA; omega) _⟩⟩
            · have hld := decide_eq_false hle
              rw [hld]
              go_wp2_with fail
              refine (HMi.out (by omega) _).mono ?_
              rintro e wh ⟨rfl, hbg⟩
              have H7 := Lib.hid (H6.out.all hbg)
              clear x0 x1 y0 y1 p0 p1 q0 q1 g0 g1 g2 g3
              clear hbg
              obtain ⟨x0, x1, _, _, _⟩ := H7.out.2.2.2.2.1
              obtain ⟨y0, y1, _, _, _⟩ := H7.out.2.2.2.2.2.1
              obtain ⟨p0, p1, _, _, _⟩ := H7.out.1
              obtain ⟨q0, q1, _, _, _⟩ := H7.out.2.1
              obtain ⟨g0, g1, g2, g3, _⟩ := H7.out.2.2.2.2.2.2
              go_wp2_with fail
              go_meet
              exact ⟨rfl, true, U * C - V * B, mh, ml, rfl, Lib.hid ⟨HW.out.2.1, by have := HW.out.2.2.2; omega, by rw [HS.out.2.1 (by rw [hpd, hqd]; decide) (by omega), hpd], (H7.out.2.2.2.2.2.2.set0 _).set1 _, (H7.out.1.other (by omega) _).other (by omega) _, (H7.out.2.1.other (by omega) _).other (by omega) _, (H7.out.2.2.1.other (by omega) _).other (by omega) _, (H7.out.2.2.2.1.setCell (p := ⟨bA, 0, none⟩) (by show w.heap.size ≤ bA; omega) _).setCell (p := ⟨bA, 1, none⟩) (by show w.heap.size ≤ bA; omega) _⟩⟩
        · have hpd := decide_eq_false hpn
          by_cases hqn : q < 0
          · have hqd := decide_eq_true hqn
            obtain ⟨x0, x1, _, _, _⟩ := H5.out.2.2.2.2.1
            obtain ⟨y0, y1, _, _, _⟩ := H5.out.2.2.2.2.2.1
            obtain ⟨p0, p1, _, _, _⟩ := H5.out.1
            obtain ⟨q0, q1, _, _, _⟩ := H5.out.2.1
            obtain ⟨g0, g1, g2, g3, _⟩ := H5.out.2.2.2.2.2.2
            go_wp2_with fail
            refine (HLe.out _).mono ?_
            rintro e wg ⟨rfl, hbg⟩
            have H6 := Lib.hid (H5.out.all hbg)
            clear x0 x1 y0 y1 p0 p1 q0 q1 g0 g1 g2 g3
            clear hbg
            obtain ⟨x0, x1, _, _, _⟩ := H6.out.2.2.2.2.1
            obtain ⟨y0, y1, _, _, _⟩ := H6.out.2.2.2.2.2.1
            obtain ⟨p0, p1, _, _, _⟩ := H6.out.1
            obtain ⟨q0, q1, _, _, _⟩ := H6.out.2.1
            obtain ⟨g0, g1, g2, g3, _⟩ := H6.out.2.2.2.2.2.2
            by_cases hle : U * C < V * B
            · have hld := decide_eq_true hle
              rw [hld]
              go_wp2_with fail
              refine (HNi.out (by omega) _).mono ?_
              rintro e wh ⟨rfl, hbg⟩
              have H7 := Lib.hid (H6.out.all hbg)
              clear x0 x1 y0 y1 p0 p1 q0 q1 g0 g1 g2 g3
              clear hbg
              obtain ⟨x0, x1, _, _, _⟩ := H7.out.2.2.2.2.1
              obtain ⟨y0, y1, _, _, _⟩ := H7.out.2.2.2.2.2.1
              obtain ⟨p0, p1, _, _, _⟩ := H7.out.1
              obtain ⟨q0, q1, _, _, _⟩ := H7.out.2.1
              obtain ⟨g0, g1, g2, g3, _⟩ := H7.out.2.2.2.2.2.2
              go_wp2_with fail
              go_meet
              exact ⟨rfl, true, V * B - U * C, nh, nl, rfl, Lib.hid ⟨HW.out.2.2.1, by have := HW.out.2.2.2; omega, by rw [HS.out.2.2 (by rw [hpd, hqd]; decide) hle, hqd], (H7.out.2.2.2.2.2.2.set0 _).set1 _, (H7.out.1.other (by omega) _).other (by omega) _, (H7.out.2.1.other (by omega) _).other (by omega) _, (H7.out.2.2.1.other (by omega) _).other (by omega) _, (H7.out.2.2.2.1.setCell (p := ⟨bA, 0, none⟩) (by show w.heap.size ≤ bA; omega) _).setCell (p := ⟨bA, 1, none⟩) (by show w.heap.size ≤ bA; omega) _⟩⟩
            · have hld := decide_eq_false hle
              rw [hld]
              go_wp2_with fail
              refine (HMi.out (by omega) _).mono ?_
              rintro e wh ⟨rfl, hbg⟩
              have H7 := Lib.hid (H6.out.all hbg)
              clear x0 x1 y0 y1 p0 p1 q0 q1 g0 g1 g2 g3
              clear hbg
              obtain ⟨x0, x1, _, _, _⟩ := H7.out.2.2.2.2.1
              obtain ⟨y0, y1, _, _, _⟩ := H7.out.2.2.2.2.2.1
              obtain ⟨p0, p1, _, _, _⟩ := H7.out.1
              obtain ⟨q0, q1, _, _, _⟩ := H7.out.2.1
              obtain ⟨g0, g1, g2, g3, _⟩ := H7.out.2.2.2.2.2.2
              go_wp2_with fail
              go_meet
              exact ⟨rfl, false, U * C - V * B, mh, ml, rfl, Lib.hid ⟨HW.out.2.1, by have := HW.out.2.2.2; omega, by rw [HS.out.2.1 (by rw [hpd, hqd]; decide) (by omega), hpd], (H7.out.2.2.2.2.2.2.set0 _).set1 _, (H7.out.1.other (by omega) _).other (by omega) _, (H7.out.2.1.other (by omega) _).other (by omega) _, (H7.out.2.2.1.other (by omega) _).other (by omega) _, (H7.out.2.2.2.1.setCell (p := ⟨bA, 0, none⟩) (by show w.heap.size ≤ bA; omega) _).setCell (p := ⟨bA, 1, none⟩) (by show w.heap.size ≤ bA; omega) _⟩⟩
          · have hqd := decide_eq_false hqn
            obtain ⟨x0, x1, _, _, _⟩ := H5.out.2.2.2.2.1
            obtain ⟨y0, y1, _, _, _⟩ := H5.out.2.2.2.2.2.1
            obtain ⟨p0, p1, _, _, _⟩ := H5.out.1
            obtain ⟨q0, q1, _, _, _⟩ := H5.out.2.1
            obtain ⟨g0, g1, g2, g3, _⟩ := H5.out.2.2.2.2.2.2
            go_wp2_with fail
            refine (HP.out _).mono ?_
            rintro e wg ⟨rfl, hbg⟩
            have H6 := Lib.hid (H5.out.all hbg)
            clear x0 x1 y0 y1 p0 p1 q0 q1 g0 g1 g2 g3
            clear hbg
            obtain ⟨x0, x1, _, _, _⟩ := H6.out.2.2.2.2.1
            obtain ⟨y0, y1, _, _, _⟩ := H6.out.2.2.2.2.2.1
            obtain ⟨p0, p1, _, _, _⟩ := H6.out.1
            obtain ⟨q0, q1, _, _, _⟩ := H6.out.2.1
            obtain ⟨g0, g1, g2, g3, _⟩ := H6.out.2.2.2.2.2.2
            go_wp2_with fail
            go_meet
            exact ⟨rfl, false, U * C + V * B, ph, pl, rfl, Lib.hid ⟨HW.out.1, by have := HW.out.2.2.2; omega, by rw [HS.out.1 (by rw [hpd, hqd]), hpd], (H6.out.2.2.2.2.2.2.set0 _).set1 _, (H6.out.1.other (by omega) _).other (by omega) _, (H6.out.2.1.other (by omega) _).other (by omega) _, (H6.out.2.2.1.other (by omega) _).other (by omega) _, (H6.out.2.2.2.1.setCell (p := ⟨bA, 0, none⟩) (by show w.heap.size ≤ bA; omega) _).setCell (p := ⟨bA, 1, none⟩) (by show w.heap.size ≤ bA; omega) _⟩⟩
      case rest =>
        obtain ⟨rfl, mn, T, th, tl, rfl, HF⟩ := hcut
        obtain ⟨G, hG⟩ : ∃ G, T.gcd d = G := ⟨_, rfl⟩
        have hG0 : 0 < G := by rw [← hG]; exact Nat.gcd_pos_of_pos_right _ HN.out.2.1
        have hGd : G ≤ d := by rw [← hG]; exact Nat.gcd_le_right _ HN.out.2.1
        have hGT : G ∣ T := by rw [← hG]; exact Nat.gcd_dvd_left _ _
        have hdb : d ≤ b := by rw [← HN.out.1]; exact Nat.gcd_le_left _ HN.out.2.2.2.2.2.2.2.2.1
        have hgr : Nat.gcd d (T % d) = G := by rw [Nat.gcd_comm, ← Nat.gcd_rec, Nat.gcd_comm, hG]
        have hfa := fadd (p := p) (q := q) (t := sgn mn T) (d := d) HN.out.2.2.2.2.2.2.2.2.1 HN.out.2.2.2.2.2.2.2.2.2 HN.out.2.2.2.2.2.2.1 HN.out.2.2.2.2.2.2.2.1 HN.out.1.symm (by rw [HN.out.2.2.2.2.1, HN.out.2.2.2.2.2.1]; exact HF.out.2.2.1.symm)
        rw [HRf.out, sgn_abs, hG, sgn_div mn T G hGT, HN.out.2.2.2.2.2.1] at hfa
        obtain ⟨rr, hrr⟩ : ∃ r, T % d = r := ⟨_, rfl⟩
        have hrd : rr < d := by rw [← hrr]; exact Nat.mod_lt _ HN.out.2.1
        obtain ⟨r2, hr2⟩ : ∃ r, T % G = r := ⟨_, rfl⟩
        obtain ⟨E, hE⟩ : ∃ E, T / G = E := ⟨_, rfl⟩
        obtain ⟨D2, hD2⟩ : ∃ D2, c / G = D2 := ⟨_, rfl⟩
        obtain ⟨dh, dl, hdw⟩ := wv_parts (T / d)
        obtain ⟨eh, el, hew⟩ := wv_parts E
        have HS1 := Lib.hid (fun (w : World) => l01Split_any T d w HF.out.2.1 HN.out.2.1 (by omega))
        rw [HF.out.1, hdw, hrr] at HS1
        have HG2 := Lib.hid (fun (w : World) => l01Gcd_any d rr w (by omega) (by omega))
        rw [← hrr, hgr, hrr] at HG2
        have HS2 := Lib.hid (fun (w : World) => l01Split_any T G w HF.out.2.1 hG0 (by omega))
        rw [HF.out.1, hE, hew, hr2] at HS2
        have hD2b : D2 ≤ 1000000000000000000 := by rw [← hD2]; exact Nat.le_trans (Nat.div_le_self _ _) hc2
        obtain ⟨n1, ok1, x1, x2, x3⟩ := small_pair E eh el hew
        obtain ⟨hi2, lo2, n2, ok2, x5, x6, x7, x8⟩ := wide_pair B D2 (by omega) (by omega)
        rw [hE, hD2] at hfa
        obtain ⟨K, hKe⟩ : ∃ K, B * D2 = K := ⟨_, rfl⟩
        rw [hKe] at hfa x7 x8
        have hEK : E = 0 → K = 1 := fun h0 => by
          have hred := Rf.reduced
          rw [hfa.1, sgn_abs, hfa.2, h0] at hred
          simpa [Nat.Coprime] using hred
        have HX := Lib.hid (And.intro x1 (And.intro x5 x6))
        have HK := Lib.hid (And.intro x2 (And.intro x3 (And.intro x7 (And.intro x8 (And.intro hfa hEK)))))
        have hdiv3 : (c : Int).tdiv (G : Int) = (D2 : Int) := by rw [← hD2]; rfl
        have hdiv3' : (c : Int) / (G : Int) = (D2 : Int) := by rw [← hD2]; simp
        have hGn : ¬ (G : Int) = 0 := by omega
        have hGn2 : ¬ G = 0 := by omega
        have hwD2 : IntKind.i64.wrap (D2 : Int) = (D2 : Int) := IntWalk.i64_in _ (by omega)
        clear x1 x2 x3 x5 x6 x7 x8 hfa hEK hG hGT hgr hrr hr2 hE hD2 hdw hew hKe
        obtain ⟨k0, k1, _, _, _⟩ := HF.out.2.2.2.1
        go_wp2_with fail
        refine (HS1.out _).mono ?_
        rintro e w5 ⟨rfl, hb5⟩
        have H5 := Lib.hid (And.intro (HF.out.2.2.2.1.all hb5) (And.intro (HF.out.2.2.2.2.1.all hb5) (And.intro (HF.out.2.2.2.2.2.1.all hb5) (And.intro (HF.out.2.2.2.2.2.2.1.all hb5) (bthen HF.out.2.2.2.2.2.2.2 hb5)))))
        clear hb5 k0 k1
        obtain ⟨k0, k1, _, _, _⟩ := H5.out.1
        go_wp2_with fail
        have hb6 : Below w5.heap.size w5 (w5.alloc (.cells #[.int .u64 dh, .int .u64 dl] 121)) := (Below.refl _ w5).alloc (Nat.le_refl _) _
        obtain ⟨w6, hw6⟩ : ∃ w', w5.alloc (.cells #[.int .u64 dh, .int .u64 dl] 121) = w' := ⟨_, rfl⟩
        rw [hw6] at hb6 ⊢
        have H6 := Lib.hid (And.intro (H5.out.1.all hb6) (And.intro (H5.out.2.1.all hb6) (And.intro (H5.out.2.2.1.all hb6) (And.intro (H5.out.2.2.2.1.all hb6) (bthen H5.out.2.2.2.2 hb6)))))
        clear hw6 hb6 k0 k1
        refine (HG2.out _).mono ?_
        rintro e w' ⟨rfl, rfl⟩
        obtain ⟨k0, k1, _, _, _⟩ := H6.out.1
        go_wp2_with fail
        refine (HS2.out _).mono ?_
        rintro e w7 ⟨rfl, hb7⟩
        have H7 := Lib.hid (And.intro (H6.out.1.all hb7) (And.intro (H6.out.2.1.all hb7) (And.intro (H6.out.2.2.1.all hb7) (And.intro (H6.out.2.2.2.1.all hb7) (bthen H6.out.2.2.2.2 hb7)))))
        clear hb7 k0 k1
        go_wp2_with fail
        have hb8 : Below w7.heap.size w7 (w7.alloc (.cells #[.int .u64 eh, .int .u64 el] 121)) := (Below.refl _ w7).alloc (Nat.le_refl _) _
        obtain ⟨w8, hw8⟩ : ∃ w', w7.alloc (.cells #[.int .u64 eh, .int .u64 el] 121) = w' := ⟨_, rfl⟩
        rw [hw8] at hb8 ⊢
        have H8 := Lib.hid (And.intro (H7.out.1.all hb8) (And.intro (H7.out.2.1.all hb8) (And.intro (H7.out.2.2.1.all hb8) (And.intro (H7.out.2.2.2.1.all hb8) (bthen H7.out.2.2.2.2 hb8)))))
        clear hw8 hb8
        refine (HX.out.1 _).mono ?_
        rintro e w9 ⟨rfl, hb9⟩
        have H9 := Lib.hid (And.intro (H8.out.1.all hb9) (And.intro (H8.out.2.1.all hb9) (And.intro (H8.out.2.2.1.all hb9) (And.intro (H8.out.2.2.2.1.all hb9) (bthen H8.out.2.2.2.2 hb9)))))
        clear hb9
        obtain ⟨p0, p1, _, _, p4⟩ := H9.out.2.1
        obtain ⟨q0, q1, _, _, q4⟩ := H9.out.2.2.1
        go_upto_region 16 with fail
        go_region_held3 (fun w' => w'.cell? ⟨w.heap.size, 1, none⟩ = some (.int .i64 (b : Nat)) ∧ w'.cell? ⟨w.heap.size + 1, 1, none⟩ = some (.int .i64 (c : Nat)) ∧ w.heap.size < w'.heap.size ∧ w.heap.size + 1 < w'.heap.size)
          ((repeat' refine And.intro ?_ ?_) <;> first | (go_keep; done) | (go_keep; omega))
          (first
            | (go_at_call 88; refine (kept3_of (b0 := w.heap.size) (b1 := w.heap.size + 1) (b2 := w.heap.size + 1) (HX.out.2.1 _) ?_ ?_ ?_).mono ?_; (first | omega | (simp [*]; done) | (simp [*]; omega)); (first | omega | (simp [*]; done) | (simp [*]; omega)); (first | omega | (simp [*]; done) | (simp [*]; omega)); rintro e wA ⟨rfl, hY1, s0, s1, s2, s3, s4, s5, s6⟩)
            | (go_at_call 93; refine (kept3_of (b0 := w.heap.size) (b1 := w.heap.size + 1) (b2 := w.heap.size + 1) (HX.out.2.2 _) ?_ ?_ ?_).mono ?_; (first | omega | (simp [*]; done) | (simp [*]; omega)); (first | omega | (simp [*]; done) | (simp [*]; omega)); (first | omega | (simp [*]; done) | (simp [*]; omega)); rintro e wB ⟨rfl, hY2, u0, u1, u2, u3, u4, u5, u6⟩))
        have hb16 : Below w9.heap.size w9 wB := bthen (bthen (Below.refl _ w9).drew hY1.out) hY2.out
        have H16 := Lib.hid (And.intro (H9.out.1.all hb16) (And.intro (H9.out.2.1.all hb16) (And.intro (H9.out.2.2.1.all hb16) (And.intro (H9.out.2.2.2.1.all hb16) (bthen H9.out.2.2.2.2 hb16)))))
        clear hb16 hY1 hY2 s0 s1 s2 s3 s4 s5 s6 u0 u1 u2 u3 u4 u5 u6 p0 p1 p4 q0 q1 q4
        obtain ⟨g0, g1, g2, g3, g4'⟩ := H16.out.2.2.2.1
        cases ok1 with
        | false =>
          have hno : ¬ E ≤ 1000000000000000000 := by have := HK.out.1; simpa using this.symm
          have HNo := Lib.hid hno
          clear hno
          go_wp2_with fail
          refine bodyPost_ret (v := .tuple #[.agg #[.int .i64 0, .int .i64 0], .bool false]) (by simp [results, Try.results42, go_sem, *]) rfl ⟨by rw [fa_no HK.out.2.2.2.2.1.1 HK.out.2.2.2.2.1.2 (fun h => HNo.out h.1)], ?_⟩
          exact (H16.out.2.2.2.2.setCell (p := ⟨w.heap.size + 1 + 1, 0, none⟩) (by show w.heap.size ≤ w.heap.size + 1 + 1; omega) _).setCell (p := ⟨w.heap.size + 1 + 1, 1, none⟩) (by show w.heap.size ≤ w.heap.size + 1 + 1; omega) _
        | true =>
          have hyes : E ≤ 1000000000000000000 := by have := HK.out.1; simpa using this.symm
          obtain rfl : n1 = ((E : Nat) : Int) := HK.out.2.1 rfl
          cases ok2 with
          | false =>
            have hno : ¬ K ≤ 1000000000000000000 := by have := HK.out.2.2.1; simpa using this.symm
            have HNo := Lib.hid hno
            clear hno
            go_wp2_with fail
            refine bodyPost_ret (v := .tuple #[.agg #[.int .i64 0, .int .i64 0], .bool false]) (by simp [results, Try.results42, go_sem, *]) rfl ⟨by rw [fa_no HK.out.2.2.2.2.1.1 HK.out.2.2.2.2.1.2 (fun h => HNo.out h.2)], ?_⟩
            exact (H16.out.2.2.2.2.setCell (p := ⟨w.heap.size + 1 + 1, 0, none⟩) (by show w.heap.size ≤ w.heap.size + 1 + 1; omega) _).setCell (p := ⟨w.heap.size + 1 + 1, 1, none⟩) (by show w.heap.size ≤ w.heap.size + 1 + 1; omega) _
          | true =>
            have hyes2 : K ≤ 1000000000000000000 := by have := HK.out.2.2.1; simpa using this.symm
            obtain rfl : n2 = ((K : Nat) : Int) := HK.out.2.2.2.1 rfl
            have HV := Lib.hid (fa_yes HK.out.2.2.2.2.1.1 HK.out.2.2.2.2.1.2 hyes hyes2)
            have hwE : IntKind.i64.wrap (-(E : Int)) = -(E : Int) := IntWalk.i64_in _ (by omega)
            have HEK := Lib.hid HK.out.2.2.2.2.2
            by_cases hE0 : E = 0
            · have hK1 := HEK.out hE0
              subst hE0
              subst hK1
              cases mn with
              | true =>
                go_wp2_with fail
                refine bodyPost_ret (v := .tuple #[.agg #[.int .i64 0, .int .i64 1], .bool true]) (by simp [results, Try.results42, go_sem, *]) rfl ⟨by rw [HV.out]; rfl, ?_⟩
                exact (H16.out.2.2.2.2.setCell (p := ⟨w.heap.size + 1 + 1, 0, none⟩) (by show w.heap.size ≤ w.heap.size + 1 + 1; omega) _).setCell (p := ⟨w.heap.size + 1 + 1, 1, none⟩) (by show w.heap.size ≤ w.heap.size + 1 + 1; omega) _
              | false =>
                go_wp2_with fail
                refine bodyPost_ret (v := .tuple #[.agg #[.int .i64 0, .int .i64 1], .bool true]) (by simp [results, Try.results42, go_sem, *]) rfl ⟨by rw [HV.out]; rfl, ?_⟩
                exact (H16.out.2.2.2.2.setCell (p := ⟨w.heap.size + 1 + 1, 0, none⟩) (by show w.heap.size ≤ w.heap.size + 1 + 1; omega) _).setCell (p := ⟨w.heap.size + 1 + 1, 1, none⟩) (by show w.heap.size ≤ w.heap.size + 1 + 1; omega) _
            · have hEi : ¬ (E : Int) = 0 := by omega
              have hEb : ((E : Int) == 0) = false := by rw [beq_eq_false_iff_ne]; exact hEi
              have hEn : (-(E : Int) == 0) = false := by rw [beq_eq_false_iff_ne]; omega
              cases mn with
              | true =>
                go_wp2_with fail
                refine bodyPost_ret (v := .tuple #[.agg #[.int .i64 (-(E : Int)), .int .i64 (K : Int)], .bool true]) (by simp [results, Try.results42, go_sem, *]) rfl ⟨by rw [HV.out]; rfl, ?_⟩
                exact (H16.out.2.2.2.2.setCell (p := ⟨w.heap.size + 1 + 1, 0, none⟩) (by show w.heap.size ≤ w.heap.size + 1 + 1; omega) _).setCell (p := ⟨w.heap.size + 1 + 1, 1, none⟩) (by show w.heap.size ≤ w.heap.size + 1 + 1; omega) _
              | false =>
                go_wp2_with fail
                refine bodyPost_ret (v := .tuple #[.agg #[.int .i64 (E : Int), .int .i64 (K : Int)], .bool true]) (by simp [results, Try.results42, go_sem, *]) rfl ⟨by rw [HV.out]; rfl, ?_⟩
                exact (H16.out.2.2.2.2.setCell (p := ⟨w.heap.size + 1 + 1, 0, none⟩) (by show w.heap.size ≤ w.heap.size + 1 + 1; omega) _).setCell (p := ⟨w.heap.size + 1 + 1, 1, none⟩) (by show w.heap.size ≤ w.heap.size + 1 + 1; omega) _
end Go.Proofs.Ytklnfhjgbmfilaa

import Derived.Test.YtaneocedklnajaaGreatLawQ
import Derived.Test.YtaneocedklnajaaGreatRatK
import Derived.Test.YtaneocedklnajaaGreatLawTX
import Derived.Test.YtaneocedklnajaaGreatWidM
import Derived.Test.YtaneocedklnajaaGreatLawAX
/- Sums of the chances that a test takes, as plain numbers. No condition. -/
namespace Go.Proofs.YtaneocedklnajaaGreat
open Go.RowKit
set_option linter.unusedVariables false

/-- The sum of the first m chances that a test takes. -/
def pickR (fs : List Int) (q : Nat → Bool) : Nat → Rat
  | 0 => 0
  | m + 1 => if q m then pickR fs q m + frR fs m else pickR fs q m
theorem pick_none {fs : List Int} {q : Nat → Bool} {m : Nat} (h : ∀ k, k < m → q k = false) : pickR fs q m = 0 := by
  induction m with
  | zero => rfl
  | succ m ih => simp [pickR, h m (by omega), ih (fun k hk => h k (by omega))]
theorem pick_split {fs : List Int} {q : Nat → Bool} {j m : Nat} (hj : j ≤ m) (h0 : ∀ k, k < j → q k = false) (h1 : ∀ k, j ≤ k → k < m → q k = true) : sumR fs j + pickR fs q m = sumR fs m := by
  induction m with
  | zero => obtain rfl : j = 0 := by omega
            exact Rat.add_zero _
  | succ m ih =>
    rcases Nat.lt_or_ge m j with h | h
    · obtain rfl : j = m + 1 := by omega
      rw [pick_none h0, Rat.add_zero]
    · have := ih h (fun k h2 h3 => h1 k h2 (by omega))
      simp only [pickR, h1 m h (by omega), if_true, sumR]
      rw [← Rat.add_assoc, this]
theorem left_one {a b : Rat} (h : a + b = 1) : 1 + -a = b := by rw [← h]; grind
theorem frR_bits {fs : List Int} {k : Nat} (h : vF (frN fs k) (frD fs k) = true) : bitsR (frR fs k) 60 := bits_fit (vF_parts h).2.2
theorem pick_bits {fs : List Int} {q : Nat → Bool} {m : Nat} (h : ∀ k, k < m → vF (frN fs k) (frD fs k) = true) : bitsR (pickR fs q m) (61 * m + 1) := by
  induction m with
  | zero => exact bits_zero
  | succ m ih =>
    have h1 := ih (fun k hk => h k (by omega))
    simp only [pickR]
    split
    · exact (bits_add h1 (frR_bits (h m (by omega)))).mono (by omega)
    · exact h1.mono (by omega)
end Go.Proofs.YtaneocedklnajaaGreat
/- The program's sum of the chances that a function takes. No condition. -/
namespace Go.Proofs.YtaneocedklnajaaGreat
open Go.RowKit
set_option linter.unusedVariables false

structure SoI (w : World) (V C : Value) (a2 : Option Addr) (n : Nat) (fs : List Int) (b6 : Nat) (r : Rat) (wr : World) : Prop where
  bx : C2 wr w.heap.size V C
  res : C2 wr (w.heap.size + 1) (.int .i64 0) (.int .i64 0)
  rb : RBox wr b6 r
  lt : w.heap.size + 1 < b6
  cha : IsInts wr a2 (n * 2) fs
  bel : Below w.heap.size w wr
theorem SoI.all {w wr wx : World} {V C : Value} {a2 : Option Addr} {n b6 : Nat} {fs : List Int} {r : Rat} (h : SoI w V C a2 n fs b6 r wr) (hb : Below wr.heap.size wr wx) : SoI w V C a2 n fs b6 r wx := ⟨h.bx.all hb, h.res.all hb, h.rb.all hb, h.lt, h.cha.below hb, bthen h.bel hb⟩
set_option maxRecDepth 20000 in
set_option maxHeartbeats 3200000 in
theorem sumOver_any (c : Nat) (p1 p2 : Addr) (q : Nat → Bool) (a1 a2 : Option Addr) (n m1 c1 c2 : Nat) (vs fs : List Int) (w : World) (hn : n ≤ 64) (h2 : IsInts w a2 (n * 2) fs) (hv : ∀ k, k < n → vF (frN fs k) (frD fs k) = true)
    (hf : ∀ args w, Sem.run Tryz.prog (callFunc c args) w = .ok (.enter c args) w)
    (hc : ∀ k, k < n → ∀ wr, Below w.heap.size w wr → Calls Tryz.prog c #[.int .i64 (k : Nat), .pointer (some p1), .pointer (some p2)] wr fun e w' => e = .returned (.bool (q k)) ∧ Below wr.heap.size wr w') :
    Calls Tryz.prog 46 #[.agg #[.slice a1 m1 c1, .slice a2 n c2], .func (.func c) #[] #[.pointer (some p1), .pointer (some p2)]] w fun e w' => e = .returned (fracV (pickR fs q n)) ∧ Below w.heap.size w w' := by
  have hA : Below w.heap.size w ((w.alloc (.cells #[.slice a1 m1 c1, .slice a2 n c2] 29)).alloc (.cells #[.int .i64 0, .int .i64 0] 40)) := ((Below.refl _ w).alloc (Nat.le_refl _) _).alloc (by simp) _
  have hc0 : C2 ((w.alloc (.cells #[.slice a1 m1 c1, .slice a2 n c2] 29)).alloc (.cells #[.int .i64 0, .int .i64 0] 40)) w.heap.size (.slice a1 m1 c1) (.slice a2 n c2) := (C2.new w _ _ _).all ((Below.refl _ _).alloc (Nat.le_refl _) _)
  have hc1 : C2 ((w.alloc (.cells #[.slice a1 m1 c1, .slice a2 n c2] 29)).alloc (.cells #[.int .i64 0, .int .i64 0] 40)) (w.heap.size + 1) (.int .i64 0) (.int .i64 0) := by
    have := C2.new (w.alloc (.cells #[.slice a1 m1 c1, .slice a2 n c2] 29)) 40 (.int .i64 0) (.int .i64 0)
    rw [alloc_size] at this; exact this
  have H0 := Lib.hid (And.intro hc0 (And.intro hc1 (And.intro (h2.below hA) hA)))
  have HC := Lib.hid hc
  have HF := Lib.hid hf
  have HV := Lib.hid hv
  clear hA hc0 hc1 h2 hc hf hv
  go_enter Tryz.func46, Tryz.ntmps46
  go_wp2_with fail
  obtain ⟨wA, hwA⟩ : ∃ w', ((w.alloc (.cells #[.slice a1 m1 c1, .slice a2 n c2] 29)).alloc (.cells #[.int .i64 0, .int .i64 0] 40)) = w' := ⟨_, rfl⟩
  rw [hwA] at H0 ⊢
  clear hwA
  refine (whole_rr 0 wA (by omega) (by omega)).mono ?_
  rintro e w1 ⟨sg, x1, k1, l1, x2, k2, l2, rfl, hr, hb, hsg⟩
  obtain rfl : sg = false := by rw [hsg]; rfl
  rw [show ((0 : Int) : Rat) = 0 from rfl] at hr
  have hb1 : Below w1.heap.size w1 (w1.alloc (.cells #[.bool false, .slice x1 l1 k1, .slice x2 l2 k2] 66)) := (Below.refl _ _).alloc (Nat.le_refl _) _
  have hbb := bthen hb hb1
  have H1 := Lib.hid (show SoI w (.slice a1 m1 c1) (.slice a2 n c2) a2 n fs w1.heap.size (pickR fs q 0) (w1.alloc (.cells #[.bool false, .slice x1 l1 k1, .slice x2 l2 k2] 66)) from
    ⟨H0.out.1.all hbb, H0.out.2.1.all hbb, ⟨x1, k1, l1, x2, k2, l2, by rw [show decide ((pickR fs q 0).num < 0) = false from rfl]; exact C3.new w1 _ _ _ _, hr.below hb1⟩, by have := (H0.out.2.1.all hb).lt; omega, H0.out.2.2.1.below hbb, bthen H0.out.2.2.2 hbb⟩)
  clear hr hb hb1 hbb H0 hsg
  obtain ⟨y0, y1, y2, y3, y4⟩ := H1.out.bx
  go_wp2_with fail
  obtain ⟨b6, hb6⟩ : ∃ b, w1.heap.size = b := ⟨_, rfl⟩
  obtain ⟨w2, hw2⟩ : ∃ w', w1.alloc (.cells #[.bool false, .slice x1 l1 k1, .slice x2 l2 k2] 66) = w' := ⟨_, rfl⟩
  rw [hb6, hw2] at H1
  clear y0 y1 y2 y3 y4
  rw [hw2, hb6]
  clear hw2 hb6
  go_loopw [13] (fun i wr => ∃ k : Nat, k ≤ n ∧ i = .int .i64 (k : Nat) ∧ Hid (SoI w (.slice a1 m1 c1) (.slice a2 n c2) a2 n fs b6 (pickR fs q k) wr)) (fun i _ => n - (intOf i).toNat)
  case atStart => exact ⟨0, Nat.zero_le _, rfl, H1⟩
  case round =>
    clear H1
    obtain ⟨k, hk, rfl, HS⟩ := hrel
    by_cases hlt : k < n
    · have hk0 : (0:Int) ≤ (k:Int) := by omega
      have hkl : (k:Int) < (n:Int) := by omega
      obtain ⟨b, off, rfl, d1, d2⟩ := fr_at HS.out.cha hlt
      have hok := HV.out k hlt
      have HR := Lib.hid (fun w => ratioOf_rr (frN fs k) (frD fs k) w hok)
      have HB := Lib.hid (pick_bits (q := q) (fun j hj => HV.out j (Nat.lt_trans hj hlt)))
      have HFB := Lib.hid (frR_bits hok)
      obtain ⟨x, hx⟩ : ∃ x, frN fs k = x := ⟨_, rfl⟩
      obtain ⟨y, hy⟩ : ∃ y, frD fs k = y := ⟨_, rfl⟩
      rw [hx, hy] at HR
      rw [hx] at d1
      rw [hy] at d2
      have HXY := Lib.hid (And.intro hx hy)
      clear hx hy hok
      have hb8 : Below wr.heap.size wr (wr.alloc (.cells #[.int .i64 x, .int .i64 y] 40)) := (Below.refl _ _).alloc (Nat.le_refl _) _
      have HK := Lib.hid (And.intro (HS.out.all hb8) (C2.new wr 40 (.int .i64 x) (.int .i64 y)))
      clear hb8
      go_wp2_with fail
      have hne8 : b6 ≠ wr.heap.size := by obtain ⟨_, _, _, _, _, _, hh, _⟩ := HS.out.rb; have := hh.lt; omega
      obtain ⟨b8, hb8⟩ : ∃ b, wr.heap.size = b := ⟨_, rfl⟩
      rw [hb8] at hne8
      have HNE := Lib.hid hne8
      clear hne8
      obtain ⟨wB, hwB⟩ : ∃ w', wr.alloc (.cells #[.int .i64 x, .int .i64 y] 40) = w' := ⟨_, rfl⟩
      rw [hb8, hwB] at HK
      rw [hwB, hb8]
      clear hwB hb8 d1 d2
      rw [HF.out, Oper.upon_enter]
      have HCk := Lib.hid (HC.out k hlt wB HK.out.1.bel)
      cases hq : q k with
      | false =>
        rw [hq] at HCk
        have HN := Lib.hid (show pickR fs q (k + 1) = pickR fs q k by simp [pickR, hq])
        clear hq
        refine HCk.out.mono ?_
        rintro e w3 ⟨rfl, hb3⟩
        have H3 := Lib.hid (HK.out.1.all hb3)
        clear hb3
        go_wp2
        go_roundw
        case rel => exact ⟨k + 1, by omega, by go_num, Lib.hid (by rw [HN.out]; exact H3.out)⟩
        case measure => simp [intOf]; omega
      | true =>
        rw [hq] at HCk
        have HN := Lib.hid (show pickR fs q (k + 1) = pickR fs q k + frR fs k by simp [pickR, hq])
        clear hq
        refine HCk.out.mono ?_
        rintro e w3 ⟨rfl, hb3⟩
        have H3 := Lib.hid (And.intro (HK.out.1.all hb3) (HK.out.2.all hb3))
        clear hb3 HK HCk HS
        obtain ⟨u1, g1, s1, u2, g2, s2, hC3, hRV⟩ := H3.out.1.rb
        obtain ⟨sg, hsg⟩ : ∃ sg, decide ((pickR fs q k).num < 0) = sg := ⟨_, rfl⟩
        rw [hsg] at hC3
        have hC3' := Lib.hid hC3
        obtain ⟨z0, z1, z2, z3, z4, z5, z6⟩ := hC3
        have HRV := Lib.hid hRV
        clear hRV
        obtain ⟨v0, v1, _, _, _⟩ := H3.out.2
        have HSG := Lib.hid hsg
        clear hsg
        go_wp2_with fail
        refine wp_region_any (by kernel_rfl) (any_of_K (k := 4) (S := fun w' => w'.cell? ⟨b6, 0, none⟩ = some (.bool sg) ∧ w'.cell? ⟨b6, 1, none⟩ = some (.slice u1 s1 g1) ∧ w'.cell? ⟨b6, 2, none⟩ = some (.slice u2 s2 g2)) (T := fun w' => w'.cell? ⟨b8, 0, none⟩ = some (.int .i64 x) ∧ w'.cell? ⟨b8, 1, none⟩ = some (.int .i64 y)) _ _ _ _ ?_)
        have hS : w3.drew.cell? ⟨b6, 0, none⟩ = some (.bool sg) ∧ w3.drew.cell? ⟨b6, 1, none⟩ = some (.slice u1 s1 g1) ∧ w3.drew.cell? ⟨b6, 2, none⟩ = some (.slice u2 s2 g2) := ⟨z0, z1, z2⟩
        have hT : w3.drew.cell? ⟨b8, 0, none⟩ = some (.int .i64 x) ∧ w3.drew.cell? ⟨b8, 1, none⟩ = some (.int .i64 y) := ⟨v0, v1⟩
        refine anyK_take (i := 0) (n := 4) (v := .agg #[.bool sg, .slice u1 s1 g1, .slice u2 s2 g2]) rfl rfl (by kernel_rfl) (by kernel_rfl) (by kernel_rfl) (by kernel_rfl) (by kernel_rfl) (fun _ _ _ h => h) (Or.inl ⟨by kernel_rfl, fun w' hw => by (obtain ⟨z1, z2, z3⟩ := hw; go_simp)⟩) hS hT ?_
        refine anyT_take (i := 1) (n := 3) (v := .agg #[.int .i64 x, .int .i64 y]) rfl (by decide) (by kernel_rfl) (by kernel_rfl) (by kernel_rfl) (fun _ _ _ h => h) (Or.inl ⟨by kernel_rfl, fun w' hw => by (obtain ⟨z1, z2⟩ := hw; go_simp)⟩) hS hT ?_
        clear z0 z1 z2 z3 z4 z5 z6 v0 v1 hS hT
        have H4 := Lib.hid (And.intro (H3.out.1.all (Below.refl _ w3).drew) (And.intro (H3.out.2.all (Below.refl _ w3).drew) (HRV.out.below (Below.refl _ w3).drew)))
        have HC3 := Lib.hid (hC3'.out.all (Below.refl _ w3).drew)
        clear hC3' H3 HRV
        refine anyK_all (n := 2) (rs := [2]) (by kernel_rfl) (by simp) (fun i hi => ?_)
        simp only [List.mem_cons, List.not_mem_nil, or_false] at hi
        obtain rfl := hi
        refine wpOp_step rfl (fun K' hK => ?_)
        go_simp
        refine (HR.out w3.drew).mono ?_
        rintro e w5 ⟨sg2, x1, i1, j1, x2, i2, j2, rfl, hv5, hb5, hsg2⟩
        have H5 := Lib.hid (And.intro (H4.out.1.all hb5) (And.intro (H4.out.2.1.all hb5) (And.intro (H4.out.2.2.below hb5) (And.intro (HC3.out.all hb5) hv5))))
        refine hK _ _ ⟨fun _ _ => ⟨H5.out.2.2.2.1.c0, H5.out.2.2.2.1.c1, H5.out.2.2.2.1.c2⟩, ⟨H5.out.2.1.c0, H5.out.2.1.c1⟩, ?_⟩
        have HS2 := Lib.hid hsg2
        clear hK hv5 hb5 H4 HC3 hsg2
        refine anyK_all (n := 1) (rs := [3]) (by kernel_rfl) (by simp) (fun i hi => ?_)
        simp only [List.mem_cons, List.not_mem_nil, or_false] at hi
        obtain rfl := hi
        refine wpOp_step rfl (fun K' hK => ?_)
        go_simp
        have hpl := plus_rr (pickR fs q k) (frR fs k) (61 * k + 1) 60 u1 u2 x1 x2 g1 g2 i1 i2 s1 s2 j1 j2 w5 H5.out.2.2.1 (by unfold frR; rw [HXY.out.1, HXY.out.2]; exact H5.out.2.2.2.2) HB.out HFB.out (by omega) (by omega)
        rw [HSG.out, show decide ((frR fs k).num < 0) = sg2 by rw [HS2.out]; unfold frR; rw [HXY.out.1, HXY.out.2], ← HN.out] at hpl
        refine hpl.mono ?_
        rintro e w6 ⟨sg3, y1, e1, f1, y2, e2, f2, rfl, hv6, hb6, hsg3⟩
        subst hsg3
        have H6 := Lib.hid (And.intro (H5.out.1.all hb6) (And.intro (H5.out.2.1.all hb6) (And.intro (H5.out.2.2.2.1.all hb6) hv6)))
        refine hK _ _ ⟨fun _ _ => ⟨H6.out.2.2.1.c0, H6.out.2.2.1.c1, H6.out.2.2.1.c2⟩, ⟨H6.out.2.1.c0, H6.out.2.1.c1⟩, ?_⟩
        clear hK hv6 hb6 H5 hpl
        refine anyK_all (n := 0) (rs := [4]) (by kernel_rfl) (by simp) (fun i hi => ?_)
        simp only [List.mem_cons, List.not_mem_nil, or_false] at hi
        obtain rfl := hi
        obtain ⟨r0, r1, r2, r3, r4, r5, r6⟩ := H6.out.2.2.1
        obtain ⟨v0, v1, _, _, _⟩ := H6.out.2.1
        refine wpOp_step rfl (fun K' hK => ?_)
        go_simp
        have hT2 := put3_other H6.out.2.1 HNE.out (.bool (decide ((pickR fs q (k + 1)).num < 0))) (.slice y1 f1 e1) (.slice y2 f2 e2)
        have hR2 : RBox (put3 w6 b6 (.bool (decide ((pickR fs q (k + 1)).num < 0))) (.slice y1 f1 e1) (.slice y2 f2 e2)) b6 (pickR fs q (k + 1)) := ⟨y1, e1, f1, y2, e2, f2, put3_box H6.out.2.2.1 _ _ _, H6.out.2.2.2.ints (put3_ints H6.out.2.2.1 _ _ _)⟩
        have hlt6 := H6.out.1.lt
        have H7 := Lib.hid (show SoI w (.slice a1 m1 c1) (.slice (some ⟨b, off, none⟩) n c2) (some ⟨b, off, none⟩) n fs b6 (pickR fs q (k + 1)) (put3 w6 b6 (.bool (decide ((pickR fs q (k + 1)).num < 0))) (.slice y1 f1 e1) (.slice y2 f2 e2)) from
          ⟨put3_other H6.out.1.bx (by omega) _ _ _, put3_other H6.out.1.res (by omega) _ _ _, hR2, hlt6, H6.out.1.cha.ints (put3_ints H6.out.2.2.1 _ _ _), put3_below H6.out.1.bel (by omega) _ _ _⟩)
        refine hK _ _ ⟨fun h => absurd rfl h, ⟨hT2.c0, hT2.c1⟩, ?_⟩
        clear hK hT2 hR2 r0 r1 r2 r3 r4 r5 r6 v0 v1
        refine ⟨by kernel_rfl, ?_⟩
        go_wp2
        go_roundw
        case rel => exact ⟨k + 1, by omega, by go_num, H7⟩
        case measure => simp [intOf]; omega
    · obtain rfl : k = n := by omega
      have HB := Lib.hid (pick_bits (q := q) HV.out)
      obtain ⟨u1, g1, s1, u2, g2, s2, hC3, hRV⟩ := HS.out.rb
      have HFR := Lib.hid (fraction_rr (pickR fs q k) (61 * k + 1) u1 u2 g1 g2 s1 s2 wr hRV HB.out (by omega))
      obtain ⟨p', q', b', hform⟩ : ∃ pp qq bb, fracV (pickR fs q k) = .tuple #[.agg #[.int .i64 pp, .int .i64 qq], .bool bb] := by unfold fracV; split <;> exact ⟨_, _, _, rfl⟩
      rw [hform] at HFR
      have HForm := Lib.hid hform
      obtain ⟨z0, z1, z2, z3, z4, z5, z6⟩ := hC3
      obtain ⟨sg, hsg⟩ : ∃ sg, decide ((pickR fs q k).num < 0) = sg := ⟨_, rfl⟩
      rw [hsg] at z0 HFR
      clear hsg hform hRV
      go_wp2_with fail
      refine HFR.out.mono ?_
      rintro e w5 ⟨rfl, hb5⟩
      have H5 := Lib.hid (HS.out.all hb5)
      obtain ⟨y0, y1, y2, y3, y4⟩ := H5.out.res
      clear hb5 z0 z1 z2 z3 z4 z5 z6
      go_wp2_with fail
      refine bodyPost_ret (v := .tuple #[.agg #[.int .i64 p', .int .i64 q'], .bool b']) (by simp [results, Tryz.results46, go_sem, *]) rfl ⟨by rw [HForm.out], ?_⟩
      exact below_two H5.out.bel (by omega) _ _
end Go.Proofs.YtaneocedklnajaaGreat
/- The program's mean. No condition but bounds. -/
namespace Go.Proofs.YtaneocedklnajaaGreat
open Go.RowKit
set_option linter.unusedVariables false

/-- The mean of what a function makes of the values: the first k summands. -/
def pmR (G : Nat → Rat) (fs : List Int) : Nat → Rat
  | 0 => 0
  | k + 1 => pmR G fs k + G k * frR fs k
theorem pm_bits {G : Nat → Rat} {fs : List Int} {y : Nat} : ∀ {n : Nat}, (∀ k, k < n → vF (frN fs k) (frD fs k) = true) → (∀ k, k < n → bitsR (G k) y) → bitsR (pmR G fs n) ((y + 61) * n + 1)
  | 0, _, _ => bits_zero
  | n + 1, h, hg => by
    have h1 := pm_bits (n := n) (fun k hk => h k (by omega)) (fun k hk => hg k (by omega))
    have h2 := bits_mul (hg n (by omega)) (frR_bits (h n (by omega)))
    have h3 := bits_add h1 h2
    rw [pmR]
    refine h3.mono ?_
    rw [Nat.mul_succ]
    omega
theorem C3.oth {w : World} {b g : Nat} {x y z : Value} (h : C3 w b x y z) (hne : g ≠ b) (u v t : Value) : C3 (put3 w g u v t) b x y z := ((h.other hne u).other hne v).other hne t
theorem put3_other3 {w : World} {b g : Nat} {x y z : Value} (h : C3 w b x y z) (hne : g ≠ b) (u v t : Value) : C3 (put3 w g u v t) b x y z := h.oth hne u v t
structure PmI (w : World) (V C : Value) (a1 a2 : Option Addr) (n : Nat) (vs fs : List Int) (b6 : Nat) (r : Rat) (wr : World) : Prop where
  bx : C2 wr w.heap.size V C
  res : C3 wr (w.heap.size + 1) (.bool false) (.slice none 0 0) (.slice none 0 0)
  rb : RBox wr b6 r
  lt : w.heap.size + 1 < b6
  val : IsInts wr a1 n vs
  cha : IsInts wr a2 (n * 2) fs
  bel : Below w.heap.size w wr
theorem PmI.all {w wr wx : World} {V C : Value} {a1 a2 : Option Addr} {n b6 : Nat} {vs fs : List Int} {r : Rat} (h : PmI w V C a1 a2 n vs fs b6 r wr) (hb : Below wr.heap.size wr wx) : PmI w V C a1 a2 n vs fs b6 r wx := ⟨h.bx.all hb, h.res.all hb, h.rb.all hb, h.lt, h.val.below hb, h.cha.below hb, bthen h.bel hb⟩
set_option maxRecDepth 20000 in
set_option maxHeartbeats 3200000 in
theorem pmean0_any (c : Nat) (G : Nat → Rat) (y : Nat) (a1 a2 : Option Addr) (n c1 c2 : Nat) (vs fs : List Int) (w : World) (hn : n ≤ 64) (hy : y ≤ 15000) (h1 : IsInts w a1 n vs) (h2 : IsInts w a2 (n * 2) fs) (hv : ∀ k, k < n → vF (frN fs k) (frD fs k) = true) (hg : ∀ k, k < n → bitsR (G k) y)
    (hf : ∀ args w, Sem.run Tryz.prog (callFunc c args) w = .ok (.enter c args) w)
    (hc : ∀ k, k < n → ∀ wr, Below w.heap.size w wr → Calls Tryz.prog c #[.int .i64 (vs.getD k 0)] wr (RetR wr (G k))) :
    Calls Tryz.prog 51 #[.agg #[.slice a1 n c1, .slice a2 n c2], .func (.func c) #[] #[]] w (RetR w (pmR G fs n)) := by
  have hA : Below w.heap.size w ((w.alloc (.cells #[.slice a1 n c1, .slice a2 n c2] 29)).alloc (.cells #[.bool false, .slice none 0 0, .slice none 0 0] 66)) := ((Below.refl _ w).alloc (Nat.le_refl _) _).alloc (by simp) _
  have hc0 : C2 ((w.alloc (.cells #[.slice a1 n c1, .slice a2 n c2] 29)).alloc (.cells #[.bool false, .slice none 0 0, .slice none 0 0] 66)) w.heap.size (.slice a1 n c1) (.slice a2 n c2) := (C2.new w _ _ _).all ((Below.refl _ _).alloc (Nat.le_refl _) _)
  have hc1 : C3 ((w.alloc (.cells #[.slice a1 n c1, .slice a2 n c2] 29)).alloc (.cells #[.bool false, .slice none 0 0, .slice none 0 0] 66)) (w.heap.size + 1) (.bool false) (.slice none 0 0) (.slice none 0 0) := by
    have := C3.new (w.alloc (.cells #[.slice a1 n c1, .slice a2 n c2] 29)) 66 (.bool false) (.slice none 0 0) (.slice none 0 0)
    rw [alloc_size] at this; exact this
  have H0 := Lib.hid (And.intro hc0 (And.intro hc1 (And.intro (h1.below hA) (And.intro (h2.below hA) hA))))
  have HC := Lib.hid hc
  have HF := Lib.hid hf
  have HV := Lib.hid hv
  have HG := Lib.hid hg
  clear hA hc0 hc1 h1 h2 hc hf hv hg
  go_enter Tryz.func51, Tryz.ntmps51
  go_wp2_with fail
  obtain ⟨wA, hwA⟩ : ∃ w', ((w.alloc (.cells #[.slice a1 n c1, .slice a2 n c2] 29)).alloc (.cells #[.bool false, .slice none 0 0, .slice none 0 0] 66)) = w' := ⟨_, rfl⟩
  rw [hwA] at H0 ⊢
  clear hwA
  refine (whole_rr 0 wA (by omega) (by omega)).mono ?_
  rintro e w1 ⟨sg, x1, k1, l1, x2, k2, l2, rfl, hr, hb, hsg⟩
  obtain rfl : sg = false := by rw [hsg]; rfl
  rw [show ((0 : Int) : Rat) = 0 from rfl] at hr
  have hb1 : Below w1.heap.size w1 (w1.alloc (.cells #[.bool false, .slice x1 l1 k1, .slice x2 l2 k2] 66)) := (Below.refl _ _).alloc (Nat.le_refl _) _
  have hbb := bthen hb hb1
  have H1 := Lib.hid (show PmI w (.slice a1 n c1) (.slice a2 n c2) a1 a2 n vs fs w1.heap.size (pmR G fs 0) (w1.alloc (.cells #[.bool false, .slice x1 l1 k1, .slice x2 l2 k2] 66)) from
    ⟨H0.out.1.all hbb, H0.out.2.1.all hbb, ⟨x1, k1, l1, x2, k2, l2, by rw [show decide ((pmR G fs 0).num < 0) = false from rfl]; exact C3.new w1 _ _ _ _, hr.below hb1⟩, by have := (H0.out.2.1.all hb).lt; omega, H0.out.2.2.1.below hbb, H0.out.2.2.2.1.below hbb, bthen H0.out.2.2.2.2 hbb⟩)
  clear hr hb hb1 hbb H0 hsg
  obtain ⟨y0, y1, y2, y3, y4⟩ := H1.out.bx
  go_wp2_with fail
  obtain ⟨b6, hb6⟩ : ∃ b, w1.heap.size = b := ⟨_, rfl⟩
  obtain ⟨w2, hw2⟩ : ∃ w', w1.alloc (.cells #[.bool false, .slice x1 l1 k1, .slice x2 l2 k2] 66) = w' := ⟨_, rfl⟩
  rw [hb6, hw2] at H1
  clear y0 y1 y2 y3 y4
  rw [hw2, hb6]
  clear hw2 hb6
  go_loopw [12] (fun i wr => ∃ k : Nat, k ≤ n ∧ i = .int .i64 (k : Nat) ∧ Hid (PmI w (.slice a1 n c1) (.slice a2 n c2) a1 a2 n vs fs b6 (pmR G fs k) wr)) (fun i _ => n - (intOf i).toNat)
  case atStart => exact ⟨0, Nat.zero_le _, rfl, H1⟩
  case round =>
    clear H1
    obtain ⟨k, hk, rfl, HS⟩ := hrel
    by_cases hlt : k < n
    · have hk0 : (0:Int) ≤ (k:Int) := by omega
      have hkl : (k:Int) < (n:Int) := by omega
      obtain ⟨g, off, rfl, cv⟩ := HS.out.val.at hlt
      obtain ⟨b, off2, rfl, d1, d2⟩ := fr_at HS.out.cha hlt
      have hok := HV.out k hlt
      have hkm : (y + 61) * k ≤ 15061 * 63 := Nat.mul_le_mul (by omega) (by omega)
      have HKM := Lib.hid hkm
      have HR := Lib.hid (fun w => ratioOf_rr (frN fs k) (frD fs k) w hok)
      have HB := Lib.hid (pm_bits (G := G) (fs := fs) (y := y) (fun j hj => HV.out j (Nat.lt_trans hj hlt)) (fun j hj => HG.out j (Nat.lt_trans hj hlt)))
      have HGB := Lib.hid (HG.out k hlt)
      have HN := Lib.hid (show pmR G fs k + G k * mkRat (frN fs k) (frD fs k).toNat = pmR G fs (k + 1) from rfl)
      have HFB := Lib.hid (show bitsR (mkRat (frN fs k) (frD fs k).toNat) 60 from frR_bits hok)
      obtain ⟨p, hx⟩ : ∃ x, frN fs k = x := ⟨_, rfl⟩
      obtain ⟨d, hy2⟩ : ∃ y, frD fs k = y := ⟨_, rfl⟩
      obtain ⟨x, hx3⟩ : ∃ x, vs.getD k 0 = x := ⟨_, rfl⟩
      rw [hx, hy2] at HR HN HFB
      rw [hx] at d1
      rw [hy2] at d2
      rw [hx3] at cv
      have HX3 := Lib.hid hx3
      clear hx hy2 hok hx3 hkm
      have hb8 : Below wr.heap.size wr (wr.alloc (.cells #[.int .i64 p, .int .i64 d] 40)) := (Below.refl _ _).alloc (Nat.le_refl _) _
      have HK := Lib.hid (And.intro (HS.out.all hb8) (C2.new wr 40 (.int .i64 p) (.int .i64 d)))
      have HCV := Lib.hid ((hb8.cell (p := ⟨g, off + k, none⟩) (World.block_lt_of_cell? wr _ cv)).trans cv)
      clear hb8
      go_upto_region 1 with fail
      obtain ⟨b8, hb8⟩ : ∃ b, wr.heap.size = b := ⟨_, rfl⟩
      obtain ⟨wB, hwB⟩ : ∃ w', wr.alloc (.cells #[.int .i64 p, .int .i64 d] 40) = w' := ⟨_, rfl⟩
      rw [hb8, hwB] at HK
      rw [hwB] at HCV
      rw [hwB, hb8]
      clear hwB hb8 d1 d2 cv
      obtain ⟨u1, g1, s1, u2, g2, s2, hC3, hRV⟩ := HK.out.1.rb
      obtain ⟨sg, hsg⟩ : ∃ sg, decide ((pmR G fs k).num < 0) = sg := ⟨_, rfl⟩
      rw [hsg] at hC3
      have hC3' := Lib.hid hC3
      have HRV := Lib.hid hRV
      have HSG := Lib.hid hsg
      clear hRV hC3 hsg
      have HSA : Hid (∀ w', Below wB.heap.size wB w' → w'.cell? ⟨b6, 0, none⟩ = some (.bool sg) ∧ w'.cell? ⟨b6, 1, none⟩ = some (.slice u1 s1 g1) ∧ w'.cell? ⟨b6, 2, none⟩ = some (.slice u2 s2 g2) ∧ w'.cell? ⟨w.heap.size, 0, none⟩ = some (.slice (some ⟨g, off, none⟩) n c1) ∧ w'.cell? ⟨g, off + k, none⟩ = some (.int .i64 x) ∧ w'.cell? ⟨b8, 0, none⟩ = some (.int .i64 p) ∧ w'.cell? ⟨b8, 1, none⟩ = some (.int .i64 d)) := Lib.hid (by
        intro w' hb
        have h3 := hC3'.out.all hb
        have h2 := HK.out.2.all hb
        have hbx := HK.out.1.bx.all hb
        exact ⟨h3.c0, h3.c1, h3.c2, hbx.c0, (hb.cell (p := ⟨g, off + k, none⟩) (World.block_lt_of_cell? wB _ HCV.out)).trans HCV.out, h2.c0, h2.c1⟩)
      have HB1 := Lib.hid ((Below.refl wB.heap.size wB).drew)
      have HP1 := Lib.hid (HK.out.1.all HB1.out)
      have HCk := Lib.hid (HC.out k hlt wB.drew HP1.out.bel)
      rw [HX3.out] at HCk
      have hS : wB.drew.cell? ⟨b6, 0, none⟩ = some (.bool sg) ∧ wB.drew.cell? ⟨b6, 1, none⟩ = some (.slice u1 s1 g1) ∧ wB.drew.cell? ⟨b6, 2, none⟩ = some (.slice u2 s2 g2) ∧ wB.drew.cell? ⟨w.heap.size, 0, none⟩ = some (.slice (some ⟨g, off, none⟩) n c1) ∧ wB.drew.cell? ⟨g, off + k, none⟩ = some (.int .i64 x) ∧ wB.drew.cell? ⟨b8, 0, none⟩ = some (.int .i64 p) ∧ wB.drew.cell? ⟨b8, 1, none⟩ = some (.int .i64 d) := HSA.out _ HB1.out
      refine wp_region_any (by kernel_rfl) (any_of_K (k := 12) (S := fun w' => w'.cell? ⟨b6, 0, none⟩ = some (.bool sg) ∧ w'.cell? ⟨b6, 1, none⟩ = some (.slice u1 s1 g1) ∧ w'.cell? ⟨b6, 2, none⟩ = some (.slice u2 s2 g2) ∧ w'.cell? ⟨w.heap.size, 0, none⟩ = some (.slice (some ⟨g, off, none⟩) n c1) ∧ w'.cell? ⟨g, off + k, none⟩ = some (.int .i64 x) ∧ w'.cell? ⟨b8, 0, none⟩ = some (.int .i64 p) ∧ w'.cell? ⟨b8, 1, none⟩ = some (.int .i64 d)) (T := fun _ => True) _ _ _ _ ?_)
      refine anyT_take (i := 1) (n := 12) (v := .func (.func c) #[] #[]) rfl (by decide) (by kernel_rfl) (by kernel_rfl) (by kernel_rfl) (fun _ _ _ h => h) (Or.inl ⟨by kernel_rfl, fun w' hw => by go_simp⟩) hS trivial ?_
      refine anyT_take (i := 2) (n := 11) (v := .pointer (some ⟨w.heap.size, 0, none⟩)) rfl (by decide) (by kernel_rfl) (by kernel_rfl) (by kernel_rfl) (fun _ _ _ h => h) (Or.inl ⟨by kernel_rfl, fun w' hw => by go_simp⟩) hS trivial ?_
      refine anyT_take (i := 4) (n := 10) (v := .int .i64 (k : Nat)) rfl (by decide) (by kernel_rfl) (by kernel_rfl) (by kernel_rfl) (fun _ _ _ h => h) (Or.inl ⟨by kernel_rfl, fun w' hw => by go_simp⟩) hS trivial ?_
      refine anyK_take (i := 0) (n := 9) (v := .agg #[.bool sg, .slice u1 s1 g1, .slice u2 s2 g2]) rfl rfl (by kernel_rfl) (by kernel_rfl) (by kernel_rfl) (by kernel_rfl) (by kernel_rfl) (fun _ _ _ h => h) (Or.inl ⟨by kernel_rfl, fun w' hw => by (obtain ⟨z0, z1, z2, z3, z4, z5, z6⟩ := hw; go_simp)⟩) hS trivial ?_
      refine anyK_take (i := 3) (n := 8) (v := .slice (some ⟨g, off, none⟩) n c1) rfl rfl (by kernel_rfl) (by kernel_rfl) (by kernel_rfl) (by kernel_rfl) (by kernel_rfl) (fun _ _ _ h => h) (Or.inl ⟨by kernel_rfl, fun w' hw => by (obtain ⟨z0, z1, z2, z3, z4, z5, z6⟩ := hw; go_simp)⟩) hS trivial ?_
      refine anyT_take (i := 5) (n := 7) (v := .pointer (some ⟨g, off + k, none⟩)) rfl (by decide) (by kernel_rfl) (by kernel_rfl) (by kernel_rfl) (fun _ _ _ h => h) (Or.inl ⟨by kernel_rfl, fun w' hw => by go_simp⟩) hS trivial ?_
      refine anyK_take (i := 6) (n := 6) (v := .int .i64 x) rfl rfl (by kernel_rfl) (by kernel_rfl) (by kernel_rfl) (by kernel_rfl) (by kernel_rfl) (fun _ _ _ h => h) (Or.inl ⟨by kernel_rfl, fun w' hw => by (obtain ⟨z0, z1, z2, z3, z4, z5, z6⟩ := hw; go_simp)⟩) hS trivial ?_
      refine anyK_take (i := 8) (n := 5) (v := .agg #[.int .i64 p, .int .i64 d]) rfl rfl (by kernel_rfl) (by kernel_rfl) (by kernel_rfl) (by kernel_rfl) (by kernel_rfl) (fun _ _ _ h => h) (Or.inl ⟨by kernel_rfl, fun w' hw => by (obtain ⟨z0, z1, z2, z3, z4, z5, z6⟩ := hw; go_simp)⟩) hS trivial ?_
      refine anyK_all (n := 4) (rs := [7]) (by kernel_rfl) (by simp) (fun i hi => ?_)
      simp only [List.mem_cons, List.not_mem_nil, or_false] at hi
      obtain rfl := hi
      refine wpOp_step rfl (fun K' hK => ?_)
      go_simp
      rw [HF.out, Oper.upon_enter]
      refine HCk.out.mono ?_
      rintro e w5 ⟨sg2, i1, j1, m1, i2, j2, m2, rfl, hv5, hb5, hsg2⟩
      have HP5 := Lib.hid (And.intro (HP1.out.all hb5) (bthen HB1.out hb5))
      have hS5 := HSA.out _ HP5.out.2
      have HV5 := Lib.hid (And.intro hv5 hsg2)
      refine hK _ _ ⟨fun _ _ => hS5, trivial, ?_⟩
      clear hK hv5 hb5 hsg2 hS HP1 HB1 HCk
      refine anyK_all (n := 3) (rs := [9]) (by kernel_rfl) (by simp) (fun i hi => ?_)
      simp only [List.mem_cons, List.not_mem_nil, or_false] at hi
      obtain rfl := hi
      refine wpOp_step rfl (fun K' hK => ?_)
      go_simp
      refine (HR.out _).mono ?_
      rintro e w6 ⟨sg3, i3, j3, m3, i4, j4, m4, rfl, hv6, hb6, hsg3⟩
      have HP6 := Lib.hid (And.intro (HP5.out.1.all hb6) (bthen HP5.out.2 hb6))
      have hS6 := HSA.out _ HP6.out.2
      have HTM := Lib.hid (times_rr (G k) (mkRat p d.toNat) y 60 i1 i2 i3 i4 j1 j2 j3 j4 m1 m2 m3 m4 w6 (HV5.out.1.below hb6) hv6 HGB.out HFB.out (by omega) (by omega))
      rw [← HV5.out.2, ← hsg3] at HTM
      refine hK _ _ ⟨fun _ _ => hS6, trivial, ?_⟩
      clear hK hv6 hb6 hsg3 hS5 HP5 HV5
      refine anyK_all (n := 2) (rs := [10]) (by kernel_rfl) (by simp) (fun i hi => ?_)
      simp only [List.mem_cons, List.not_mem_nil, or_false] at hi
      obtain rfl := hi
      refine wpOp_step rfl (fun K' hK => ?_)
      go_simp
      refine HTM.out.mono ?_
      rintro e w7 ⟨sg4, i5, j5, m5, i6, j6, m6, rfl, hv7, hb7, hsg4⟩
      have HP7 := Lib.hid (And.intro (HP6.out.1.all hb7) (bthen HP6.out.2 hb7))
      have hS7 := HSA.out _ HP7.out.2
      have HRV7 := Lib.hid (HRV.out.below HP7.out.2)
      have HPL := Lib.hid (plus_rr (pmR G fs k) (G k * mkRat p d.toNat) ((y + 61) * k + 1) (y + 60) u1 u2 i5 i6 g1 g2 j5 j6 s1 s2 m5 m6 w7 HRV7.out hv7 HB.out (bits_mul HGB.out HFB.out) (by have := HKM.out; omega) (by omega))
      rw [HSG.out, ← hsg4, HN.out] at HPL
      refine hK _ _ ⟨fun _ _ => hS7, trivial, ?_⟩
      clear hK hv7 hb7 hsg4 hS6 HP6 HTM
      refine anyK_all (n := 1) (rs := [11]) (by kernel_rfl) (by simp) (fun i hi => ?_)
      simp only [List.mem_cons, List.not_mem_nil, or_false] at hi
      obtain rfl := hi
      refine wpOp_step rfl (fun K' hK => ?_)
      go_simp
      refine HPL.out.mono ?_
      rintro e w8 ⟨sg5, y1, e1, f1, y2, e2, f2, rfl, hv8, hb8, hsg5⟩
      have HP8 := Lib.hid (And.intro (HP7.out.1.all hb8) (bthen HP7.out.2 hb8))
      have hS8 := HSA.out _ HP8.out.2
      subst hsg5
      have HV8 := Lib.hid hv8
      refine hK _ _ ⟨fun _ _ => hS8, trivial, ?_⟩
      clear hK hv8 hb8 hS7 HP7 HPL
      obtain ⟨v1', v2', v3', v4', v5', v6', hC8, _⟩ := HP8.out.1.rb
      have HC8 := Lib.hid hC8
      obtain ⟨r0, r1, r2, r3, r4, r5, r6⟩ := hC8
      refine anyK_all (n := 0) (rs := [12]) (by kernel_rfl) (by simp) (fun i hi => ?_)
      simp only [List.mem_cons, List.not_mem_nil, or_false] at hi
      obtain rfl := hi
      refine wpOp_step rfl (fun K' hK => ?_)
      go_simp
      have hR2 : RBox (put3 w8 b6 (.bool (decide ((pmR G fs (k + 1)).num < 0))) (.slice y1 f1 e1) (.slice y2 f2 e2)) b6 (pmR G fs (k + 1)) := ⟨y1, e1, f1, y2, e2, f2, put3_box HC8.out _ _ _, HV8.out.ints (put3_ints HC8.out _ _ _)⟩
      have hlt6 := HP8.out.1.lt
      have H7 := Lib.hid (show PmI w (.slice (some ⟨g, off, none⟩) n c1) (.slice (some ⟨b, off2, none⟩) n c2) (some ⟨g, off, none⟩) (some ⟨b, off2, none⟩) n vs fs b6 (pmR G fs (k + 1)) (put3 w8 b6 (.bool (decide ((pmR G fs (k + 1)).num < 0))) (.slice y1 f1 e1) (.slice y2 f2 e2)) from
        ⟨put3_other HP8.out.1.bx (by omega) _ _ _, put3_other3 HP8.out.1.res (by omega) _ _ _, hR2, hlt6, HP8.out.1.val.ints (put3_ints HC8.out _ _ _), HP8.out.1.cha.ints (put3_ints HC8.out _ _ _), put3_below HP8.out.1.bel (by omega) _ _ _⟩)
      refine hK _ _ ⟨fun h => absurd rfl h, trivial, ?_⟩
      clear hK hR2 r0 r1 r2 r3 r4 r5 r6 hS8
      refine ⟨by kernel_rfl, ?_⟩
      go_wp2_with fail
      have hmm : n - ((k : Int) + 1).toNat < n - ((k : Int)).toNat := by omega
      refine ⟨⟨k + 1, by omega, by rw [show ((k + 1 : Nat) : Int) = (k : Int) + 1 from by omega], H7⟩, ?_⟩
      exact hmm
    · obtain rfl : k = n := by omega
      obtain ⟨u1, g1, s1, u2, g2, s2, hC3, hRV⟩ := HS.out.rb
      obtain ⟨sg, hsg⟩ : ∃ sg, decide ((pmR G fs k).num < 0) = sg := ⟨_, rfl⟩
      rw [hsg] at hC3
      obtain ⟨z0, z1, z2, z3, z4, z5, z6⟩ := hC3
      have hlt6 := HS.out.lt
      obtain ⟨r0, r1, r2, r3, r4, r5, r6⟩ := HS.out.res
      have HRV := Lib.hid hRV
      have HSG := Lib.hid hsg
      clear hRV hsg
      go_wp2_with fail
      refine bodyPost_ret (v := .agg #[.bool sg, .slice u1 s1 g1, .slice u2 s2 g2]) (by simp [results, Tryz.results51, go_sem, *]) rfl ?_
      exact ⟨sg, u1, g1, s1, u2, g2, s2, rfl, HRV.out.ints (put3_ints HS.out.res _ _ _), put3_below HS.out.bel (by omega) _ _ _, HSG.out.symm⟩
set_option maxRecDepth 20000 in
set_option maxHeartbeats 3200000 in
theorem pmean1_any (p1 : Addr) (c : Nat) (G : Nat → Rat) (y : Nat) (a1 a2 : Option Addr) (n c1 c2 : Nat) (vs fs : List Int) (w : World) (hn : n ≤ 64) (hy : y ≤ 15000) (h1 : IsInts w a1 n vs) (h2 : IsInts w a2 (n * 2) fs) (hv : ∀ k, k < n → vF (frN fs k) (frD fs k) = true) (hg : ∀ k, k < n → bitsR (G k) y)
    (hf : ∀ args w, Sem.run Tryz.prog (callFunc c args) w = .ok (.enter c args) w)
    (hc : ∀ k, k < n → ∀ wr, Below w.heap.size w wr → Calls Tryz.prog c #[.int .i64 (vs.getD k 0), .pointer (some p1)] wr (RetR wr (G k))) :
    Calls Tryz.prog 51 #[.agg #[.slice a1 n c1, .slice a2 n c2], .func (.func c) #[] #[.pointer (some p1)]] w (RetR w (pmR G fs n)) := by
  have hA : Below w.heap.size w ((w.alloc (.cells #[.slice a1 n c1, .slice a2 n c2] 29)).alloc (.cells #[.bool false, .slice none 0 0, .slice none 0 0] 66)) := ((Below.refl _ w).alloc (Nat.le_refl _) _).alloc (by simp) _
  have hc0 : C2 ((w.alloc (.cells #[.slice a1 n c1, .slice a2 n c2] 29)).alloc (.cells #[.bool false, .slice none 0 0, .slice none 0 0] 66)) w.heap.size (.slice a1 n c1) (.slice a2 n c2) := (C2.new w _ _ _).all ((Below.refl _ _).alloc (Nat.le_refl _) _)
  have hc1 : C3 ((w.alloc (.cells #[.slice a1 n c1, .slice a2 n c2] 29)).alloc (.cells #[.bool false, .slice none 0 0, .slice none 0 0] 66)) (w.heap.size + 1) (.bool false) (.slice none 0 0) (.slice none 0 0) := by
    have := C3.new (w.alloc (.cells #[.slice a1 n c1, .slice a2 n c2] 29)) 66 (.bool false) (.slice none 0 0) (.slice none 0 0)
    rw [alloc_size] at this; exact this
  have H0 := Lib.hid (And.intro hc0 (And.intro hc1 (And.intro (h1.below hA) (And.intro (h2.below hA) hA))))
  have HC := Lib.hid hc
  have HF := Lib.hid hf
  have HV := Lib.hid hv
  have HG := Lib.hid hg
  clear hA hc0 hc1 h1 h2 hc hf hv hg
  go_enter Tryz.func51, Tryz.ntmps51
  go_wp2_with fail
  obtain ⟨wA, hwA⟩ : ∃ w', ((w.alloc (.cells #[.slice a1 n c1, .slice a2 n c2] 29)).alloc (.cells #[.bool false, .slice none 0 0, .slice none 0 0] 66)) = w' := ⟨_, rfl⟩
  rw [hwA] at H0 ⊢
  clear hwA
  refine (whole_rr 0 wA (by omega) (by omega)).mono ?_
  rintro e w1 ⟨sg, x1, k1, l1, x2, k2, l2, rfl, hr, hb, hsg⟩
  obtain rfl : sg = false := by rw [hsg]; rfl
  rw [show ((0 : Int) : Rat) = 0 from rfl] at hr
  have hb1 : Below w1.heap.size w1 (w1.alloc (.cells #[.bool false, .slice x1 l1 k1, .slice x2 l2 k2] 66)) := (Below.refl _ _).alloc (Nat.le_refl _) _
  have hbb := bthen hb hb1
  have H1 := Lib.hid (show PmI w (.slice a1 n c1) (.slice a2 n c2) a1 a2 n vs fs w1.heap.size (pmR G fs 0) (w1.alloc (.cells #[.bool false, .slice x1 l1 k1, .slice x2 l2 k2] 66)) from
    ⟨H0.out.1.all hbb, H0.out.2.1.all hbb, ⟨x1, k1, l1, x2, k2, l2, by rw [show decide ((pmR G fs 0).num < 0) = false from rfl]; exact C3.new w1 _ _ _ _, hr.below hb1⟩, by have := (H0.out.2.1.all hb).lt; omega, H0.out.2.2.1.below hbb, H0.out.2.2.2.1.below hbb, bthen H0.out.2.2.2.2 hbb⟩)
  clear hr hb hb1 hbb H0 hsg
  obtain ⟨y0, y1, y2, y3, y4⟩ := H1.out.bx
  go_wp2_with fail
  obtain ⟨b6, hb6⟩ : ∃ b, w1.heap.size = b := ⟨_, rfl⟩
  obtain ⟨w2, hw2⟩ : ∃ w', w1.alloc (.cells #[.bool false, .slice x1 l1 k1, .slice x2 l2 k2] 66) = w' := ⟨_, rfl⟩
  rw [hb6, hw2] at H1
  clear y0 y1 y2 y3 y4
  rw [hw2, hb6]
  clear hw2 hb6
  go_loopw [12] (fun i wr => ∃ k : Nat, k ≤ n ∧ i = .int .i64 (k : Nat) ∧ Hid (PmI w (.slice a1 n c1) (.slice a2 n c2) a1 a2 n vs fs b6 (pmR G fs k) wr)) (fun i _ => n - (intOf i).toNat)
  case atStart => exact ⟨0, Nat.zero_le _, rfl, H1⟩
  case round =>
    clear H1
    obtain ⟨k, hk, rfl, HS⟩ := hrel
    by_cases hlt : k < n
    · have hk0 : (0:Int) ≤ (k:Int) := by omega
      have hkl : (k:Int) < (n:Int) := by omega
      obtain ⟨g, off, rfl, cv⟩ := HS.out.val.at hlt
      obtain ⟨b, off2, rfl, d1, d2⟩ := fr_at HS.out.cha hlt
      have hok := HV.out k hlt
      have hkm : (y + 61) * k ≤ 15061 * 63 := Nat.mul_le_mul (by omega) (by omega)
      have HKM := Lib.hid hkm
      have HR := Lib.hid (fun w => ratioOf_rr (frN fs k) (frD fs k) w hok)
      have HB := Lib.hid (pm_bits (G := G) (fs := fs) (y := y) (fun j hj => HV.out j (Nat.lt_trans hj hlt)) (fun j hj => HG.out j (Nat.lt_trans hj hlt)))
      have HGB := Lib.hid (HG.out k hlt)
      have HN := Lib.hid (show pmR G fs k + G k * mkRat (frN fs k) (frD fs k).toNat = pmR G fs (k + 1) from rfl)
      have HFB := Lib.hid (show bitsR (mkRat (frN fs k) (frD fs k).toNat) 60 from frR_bits hok)
      obtain ⟨p, hx⟩ : ∃ x, frN fs k = x := ⟨_, rfl⟩
      obtain ⟨d, hy2⟩ : ∃ y, frD fs k = y := ⟨_, rfl⟩
      obtain ⟨x, hx3⟩ : ∃ x, vs.getD k 0 = x := ⟨_, rfl⟩
      rw [hx, hy2] at HR HN HFB
      rw [hx] at d1
      rw [hy2] at d2
      rw [hx3] at cv
      have HX3 := Lib.hid hx3
      clear hx hy2 hok hx3 hkm
      have hb8 : Below wr.heap.size wr (wr.alloc (.cells #[.int .i64 p, .int .i64 d] 40)) := (Below.refl _ _).alloc (Nat.le_refl _) _
      have HK := Lib.hid (And.intro (HS.out.all hb8) (C2.new wr 40 (.int .i64 p) (.int .i64 d)))
      have HCV := Lib.hid ((hb8.cell (p := ⟨g, off + k, none⟩) (World.block_lt_of_cell? wr _ cv)).trans cv)
      clear hb8
      go_upto_region 1 with fail
      obtain ⟨b8, hb8⟩ : ∃ b, wr.heap.size = b := ⟨_, rfl⟩
      obtain ⟨wB, hwB⟩ : ∃ w', wr.alloc (.cells #[.int .i64 p, .int .i64 d] 40) = w' := ⟨_, rfl⟩
      rw [hb8, hwB] at HK
      rw [hwB] at HCV
      rw [hwB, hb8]
      clear hwB hb8 d1 d2 cv
      obtain ⟨u1, g1, s1, u2, g2, s2, hC3, hRV⟩ := HK.out.1.rb
      obtain ⟨sg, hsg⟩ : ∃ sg, decide ((pmR G fs k).num < 0) = sg := ⟨_, rfl⟩
      rw [hsg] at hC3
      have hC3' := Lib.hid hC3
      have HRV := Lib.hid hRV
      have HSG := Lib.hid hsg
      clear hRV hC3 hsg
      have HSA : Hid (∀ w', Below wB.heap.size wB w' → w'.cell? ⟨b6, 0, none⟩ = some (.bool sg) ∧ w'.cell? ⟨b6, 1, none⟩ = some (.slice u1 s1 g1) ∧ w'.cell? ⟨b6, 2, none⟩ = some (.slice u2 s2 g2) ∧ w'.cell? ⟨w.heap.size, 0, none⟩ = some (.slice (some ⟨g, off, none⟩) n c1) ∧ w'.cell? ⟨g, off + k, none⟩ = some (.int .i64 x) ∧ w'.cell? ⟨b8, 0, none⟩ = some (.int .i64 p) ∧ w'.cell? ⟨b8, 1, none⟩ = some (.int .i64 d)) := Lib.hid (by
        intro w' hb
        have h3 := hC3'.out.all hb
        have h2 := HK.out.2.all hb
        have hbx := HK.out.1.bx.all hb
        exact ⟨h3.c0, h3.c1, h3.c2, hbx.c0, (hb.cell (p := ⟨g, off + k, none⟩) (World.block_lt_of_cell? wB _ HCV.out)).trans HCV.out, h2.c0, h2.c1⟩)
      have HB1 := Lib.hid ((Below.refl wB.heap.size wB).drew)
      have HP1 := Lib.hid (HK.out.1.all HB1.out)
      have HCk := Lib.hid (HC.out k hlt wB.drew HP1.out.bel)
      rw [HX3.out] at HCk
      have hS : wB.drew.cell? ⟨b6, 0, none⟩ = some (.bool sg) ∧ wB.drew.cell? ⟨b6, 1, none⟩ = some (.slice u1 s1 g1) ∧ wB.drew.cell? ⟨b6, 2, none⟩ = some (.slice u2 s2 g2) ∧ wB.drew.cell? ⟨w.heap.size, 0, none⟩ = some (.slice (some ⟨g, off, none⟩) n c1) ∧ wB.drew.cell? ⟨g, off + k, none⟩ = some (.int .i64 x) ∧ wB.drew.cell? ⟨b8, 0, none⟩ = some (.int .i64 p) ∧ wB.drew.cell? ⟨b8, 1, none⟩ = some (.int .i64 d) := HSA.out _ HB1.out
      refine wp_region_any (by kernel_rfl) (any_of_K (k := 12) (S := fun w' => w'.cell? ⟨b6, 0, none⟩ = some (.bool sg) ∧ w'.cell? ⟨b6, 1, none⟩ = some (.slice u1 s1 g1) ∧ w'.cell? ⟨b6, 2, none⟩ = some (.slice u2 s2 g2) ∧ w'.cell? ⟨w.heap.size, 0, none⟩ = some (.slice (some ⟨g, off, none⟩) n c1) ∧ w'.cell? ⟨g, off + k, none⟩ = some (.int .i64 x) ∧ w'.cell? ⟨b8, 0, none⟩ = some (.int .i64 p) ∧ w'.cell? ⟨b8, 1, none⟩ = some (.int .i64 d)) (T := fun _ => True) _ _ _ _ ?_)
      refine anyT_take (i := 1) (n := 12) (v := .func (.func c) #[] #[.pointer (some p1)]) rfl (by decide) (by kernel_rfl) (by kernel_rfl) (by kernel_rfl) (fun _ _ _ h => h) (Or.inl ⟨by kernel_rfl, fun w' hw => by go_simp⟩) hS trivial ?_
      refine anyT_take (i := 2) (n := 11) (v := .pointer (some ⟨w.heap.size, 0, none⟩)) rfl (by decide) (by kernel_rfl) (by kernel_rfl) (by kernel_rfl) (fun _ _ _ h => h) (Or.inl ⟨by kernel_rfl, fun w' hw => by go_simp⟩) hS trivial ?_
      refine anyT_take (i := 4) (n := 10) (v := .int .i64 (k : Nat)) rfl (by decide) (by kernel_rfl) (by kernel_rfl) (by kernel_rfl) (fun _ _ _ h => h) (Or.inl ⟨by kernel_rfl, fun w' hw => by go_simp⟩) hS trivial ?_
      refine anyK_take (i := 0) (n := 9) (v := .agg #[.bool sg, .slice u1 s1 g1, .slice u2 s2 g2]) rfl rfl (by kernel_rfl) (by kernel_rfl) (by kernel_rfl) (by kernel_rfl) (by kernel_rfl) (fun _ _ _ h => h) (Or.inl ⟨by kernel_rfl, fun w' hw => by (obtain ⟨z0, z1, z2, z3, z4, z5, z6⟩ := hw; go_simp)⟩) hS trivial ?_
      refine anyK_take (i := 3) (n := 8) (v := .slice (some ⟨g, off, none⟩) n c1) rfl rfl (by kernel_rfl) (by kernel_rfl) (by kernel_rfl) (by kernel_rfl) (by kernel_rfl) (fun _ _ _ h => h) (Or.inl ⟨by kernel_rfl, fun w' hw => by (obtain ⟨z0, z1, z2, z3, z4, z5, z6⟩ := hw; go_simp)⟩) hS trivial ?_
      refine anyT_take (i := 5) (n := 7) (v := .pointer (some ⟨g, off + k, none⟩)) rfl (by decide) (by kernel_rfl) (by kernel_rfl) (by kernel_rfl) (fun _ _ _ h => h) (Or.inl ⟨by kernel_rfl, fun w' hw => by go_simp⟩) hS trivial ?_
      refine anyK_take (i := 6) (n := 6) (v := .int .i64 x) rfl rfl (by kernel_rfl) (by kernel_rfl) (by kernel_rfl) (by kernel_rfl) (by kernel_rfl) (fun _ _ _ h => h) (Or.inl ⟨by kernel_rfl, fun w' hw => by (obtain ⟨z0, z1, z2, z3, z4, z5, z6⟩ := hw; go_simp)⟩) hS trivial ?_
      refine anyK_take (i := 8) (n := 5) (v := .agg #[.int .i64 p, .int .i64 d]) rfl rfl (by kernel_rfl) (by kernel_rfl) (by kernel_rfl) (by kernel_rfl) (by kernel_rfl) (fun _ _ _ h => h) (Or.inl ⟨by kernel_rfl, fun w' hw => by (obtain ⟨z0, z1, z2, z3, z4, z5, z6⟩ := hw; go_simp)⟩) hS trivial ?_
      refine anyK_all (n := 4) (rs := [7]) (by kernel_rfl) (by simp) (fun i hi => ?_)
      simp only [List.mem_cons, List.not_mem_nil, or_false] at hi
      obtain rfl := hi
      refine wpOp_step rfl (fun K' hK => ?_)
      go_simp
      rw [HF.out, Oper.upon_enter]
      refine HCk.out.mono ?_
      rintro e w5 ⟨sg2, i1, j1, m1, i2, j2, m2, rfl, hv5, hb5, hsg2⟩
      have HP5 := Lib.hid (And.intro (HP1.out.all hb5) (bthen HB1.out hb5))
      have hS5 := HSA.out _ HP5.out.2
      have HV5 := Lib.hid (And.intro hv5 hsg2)
      refine hK _ _ ⟨fun _ _ => hS5, trivial, ?_⟩
      clear hK hv5 hb5 hsg2 hS HP1 HB1 HCk
      refine anyK_all (n := 3) (rs := [9]) (by kernel_rfl) (by simp) (fun i hi => ?_)
      simp only [List.mem_cons, List.not_mem_nil, or_false] at hi
      obtain rfl := hi
      refine wpOp_step rfl (fun K' hK => ?_)
      go_simp
      refine (HR.out _).mono ?_
      rintro e w6 ⟨sg3, i3, j3, m3, i4, j4, m4, rfl, hv6, hb6, hsg3⟩
      have HP6 := Lib.hid (And.intro (HP5.out.1.all hb6) (bthen HP5.out.2 hb6))
      have hS6 := HSA.out _ HP6.out.2
      have HTM := Lib.hid (times_rr (G k) (mkRat p d.toNat) y 60 i1 i2 i3 i4 j1 j2 j3 j4 m1 m2 m3 m4 w6 (HV5.out.1.below hb6) hv6 HGB.out HFB.out (by omega) (by omega))
      rw [← HV5.out.2, ← hsg3] at HTM
      refine hK _ _ ⟨fun _ _ => hS6, trivial, ?_⟩
      clear hK hv6 hb6 hsg3 hS5 HP5 HV5
      refine anyK_all (n := 2) (rs := [10]) (by kernel_rfl) (by simp) (fun i hi => ?_)
      simp only [List.mem_cons, List.not_mem_nil, or_false] at hi
      obtain rfl := hi
      refine wpOp_step rfl (fun K' hK => ?_)
      go_simp
      refine HTM.out.mono ?_
      rintro e w7 ⟨sg4, i5, j5, m5, i6, j6, m6, rfl, hv7, hb7, hsg4⟩
      have HP7 := Lib.hid (And.intro (HP6.out.1.all hb7) (bthen HP6.out.2 hb7))
      have hS7 := HSA.out _ HP7.out.2
      have HRV7 := Lib.hid (HRV.out.below HP7.out.2)
      have HPL := Lib.hid (plus_rr (pmR G fs k) (G k * mkRat p d.toNat) ((y + 61) * k + 1) (y + 60) u1 u2 i5 i6 g1 g2 j5 j6 s1 s2 m5 m6 w7 HRV7.out hv7 HB.out (bits_mul HGB.out HFB.out) (by have := HKM.out; omega) (by omega))
      rw [HSG.out, ← hsg4, HN.out] at HPL
      refine hK _ _ ⟨fun _ _ => hS7, trivial, ?_⟩
      clear hK hv7 hb7 hsg4 hS6 HP6 HTM
      refine anyK_all (n := 1) (rs := [11]) (by kernel_rfl) (by simp) (fun i hi => ?_)
      simp only [List.mem_cons, List.not_mem_nil, or_false] at hi
      obtain rfl := hi
      refine wpOp_step rfl (fun K' hK => ?_)
      go_simp
      refine HPL.out.mono ?_
      rintro e w8 ⟨sg5, y1, e1, f1, y2, e2, f2, rfl, hv8, hb8, hsg5⟩
      have HP8 := Lib.hid (And.intro (HP7.out.1.all hb8) (bthen HP7.out.2 hb8))
      have hS8 := HSA.out _ HP8.out.2
      subst hsg5
      have HV8 := Lib.hid hv8
      refine hK _ _ ⟨fun _ _ => hS8, trivial, ?_⟩
      clear hK hv8 hb8 hS7 HP7 HPL
      obtain ⟨v1', v2', v3', v4', v5', v6', hC8, _⟩ := HP8.out.1.rb
      have HC8 := Lib.hid hC8
      obtain ⟨r0, r1, r2, r3, r4, r5, r6⟩ := hC8
      refine anyK_all (n := 0) (rs := [12]) (by kernel_rfl) (by simp) (fun i hi => ?_)
      simp only [List.mem_cons, List.not_mem_nil, or_false] at hi
      obtain rfl := hi
      refine wpOp_step rfl (fun K' hK => ?_)
      go_simp
      have hR2 : RBox (put3 w8 b6 (.bool (decide ((pmR G fs (k + 1)).num < 0))) (.slice y1 f1 e1) (.slice y2 f2 e2)) b6 (pmR G fs (k + 1)) := ⟨y1, e1, f1, y2, e2, f2, put3_box HC8.out _ _ _, HV8.out.ints (put3_ints HC8.out _ _ _)⟩
      have hlt6 := HP8.out.1.lt
      have H7 := Lib.hid (show PmI w (.slice (some ⟨g, off, none⟩) n c1) (.slice (some ⟨b, off2, none⟩) n c2) (some ⟨g, off, none⟩) (some ⟨b, off2, none⟩) n vs fs b6 (pmR G fs (k + 1)) (put3 w8 b6 (.bool (decide ((pmR G fs (k + 1)).num < 0))) (.slice y1 f1 e1) (.slice y2 f2 e2)) from
        ⟨put3_other HP8.out.1.bx (by omega) _ _ _, put3_other3 HP8.out.1.res (by omega) _ _ _, hR2, hlt6, HP8.out.1.val.ints (put3_ints HC8.out _ _ _), HP8.out.1.cha.ints (put3_ints HC8.out _ _ _), put3_below HP8.out.1.bel (by omega) _ _ _⟩)
      refine hK _ _ ⟨fun h => absurd rfl h, trivial, ?_⟩
      clear hK hR2 r0 r1 r2 r3 r4 r5 r6 hS8
      refine ⟨by kernel_rfl, ?_⟩
      go_wp2_with fail
      have hmm : n - ((k : Int) + 1).toNat < n - ((k : Int)).toNat := by omega
      refine ⟨⟨k + 1, by omega, by rw [show ((k + 1 : Nat) : Int) = (k : Int) + 1 from by omega], H7⟩, ?_⟩
      exact hmm
    · obtain rfl : k = n := by omega
      obtain ⟨u1, g1, s1, u2, g2, s2, hC3, hRV⟩ := HS.out.rb
      obtain ⟨sg, hsg⟩ : ∃ sg, decide ((pmR G fs k).num < 0) = sg := ⟨_, rfl⟩
      rw [hsg] at hC3
      obtain ⟨z0, z1, z2, z3, z4, z5, z6⟩ := hC3
      have hlt6 := HS.out.lt
      obtain ⟨r0, r1, r2, r3, r4, r5, r6⟩ := HS.out.res
      have HRV := Lib.hid hRV
      have HSG := Lib.hid hsg
      clear hRV hsg
      go_wp2_with fail
      refine bodyPost_ret (v := .agg #[.bool sg, .slice u1 s1 g1, .slice u2 s2 g2]) (by simp [results, Tryz.results51, go_sem, *]) rfl ?_
      exact ⟨sg, u1, g1, s1, u2, g2, s2, rfl, HRV.out.ints (put3_ints HS.out.res _ _ _), put3_below HS.out.bel (by omega) _ _ _, HSG.out.symm⟩
end Go.Proofs.YtaneocedklnajaaGreat
/- The program's MeanOf, and the law. No condition. -/
namespace Go.Proofs.YtaneocedklnajaaGreat
open Go.RowKit
set_option linter.unusedVariables false

theorem mk_one (x : Int) : mkRat x 1 = (x : Rat) := by
  have := Rat.mkRat_self (x : Rat)
  rw [Rat.num_intCast, Rat.den_intCast] at this
  exact this
theorem pm_sum (vs fs : List Int) : ∀ n, pmR (fun k => ((vs.getD k 0 : Int) : Rat)) fs n = B30.sumW (B30.mnR vs fs) n
  | 0 => rfl
  | n + 1 => by
    rw [pmR, B30.sumW, pm_sum vs fs n, B30.mnR, mk_one]
theorem bits_val {x : Int} (h1 : -1000000000000000 ≤ x) (h2 : x ≤ 1000000000000000) : bitsR (x : Rat) 50 := by
  refine ⟨?_, ?_⟩
  · rw [Rat.num_intCast]; have : (2:Nat) ^ 50 = 1125899906842624 := by decide
    omega
  · rw [Rat.den_intCast]; decide
set_option maxHeartbeats 1600000 in
theorem meanOf_any (a1 a2 : Option Addr) (n m c1 c2 : Nat) (vs fs : List Int) (w : World) (hn : n ≤ 1048576) (hm : m ≤ 1048576) (h1 : IsInts w a1 n vs) (h2 : IsInts w a2 (m * 2) fs) :
    Calls Tryz.prog 19 #[.agg #[.slice a1 n c1, .slice a2 m c2]] w fun e w' => e = .returned (lrV vs fs n m (B30.sumW (B30.mnR vs fs) n)) ∧ Below w.heap.size w w' := by
  have hl := h1.1
  have hA : Below w.heap.size w ((w.alloc (.cells #[.slice a1 n c1, .slice a2 m c2] 29)).alloc (.cells #[.int .i64 0, .int .i64 0] 40)) := ((Below.refl _ w).alloc (Nat.le_refl _) _).alloc (by simp) _
  have hc0 : C2 ((w.alloc (.cells #[.slice a1 n c1, .slice a2 m c2] 29)).alloc (.cells #[.int .i64 0, .int .i64 0] 40)) w.heap.size (.slice a1 n c1) (.slice a2 m c2) := (C2.new w _ _ _).all ((Below.refl _ _).alloc (Nat.le_refl _) _)
  have hc1 : C2 ((w.alloc (.cells #[.slice a1 n c1, .slice a2 m c2] 29)).alloc (.cells #[.int .i64 0, .int .i64 0] 40)) (w.heap.size + 1) (.int .i64 0) (.int .i64 0) := by
    have := C2.new (w.alloc (.cells #[.slice a1 n c1, .slice a2 m c2] 29)) 40 (.int .i64 0) (.int .i64 0)
    rw [alloc_size] at this; exact this
  have H0 := Lib.hid (And.intro hc0 (And.intro hc1 (And.intro (h1.below hA) (And.intro (h2.below hA) hA))))
  have HV := Lib.hid (fun w h1 h2 => validLaw_any a1 a2 n m c1 c2 vs fs w hn hm h1 h2)
  clear hA hc0 hc1 h1 h2
  obtain ⟨ok, hok⟩ : ∃ ok, lawOk vs fs n m = ok := ⟨_, rfl⟩
  rw [hok] at HV
  have HQ := Lib.hid hok
  have HL := Lib.hid hl
  clear hok hl
  go_enter Tryz.func19, Tryz.ntmps19
  go_wp2_with fail
  obtain ⟨wA, hwA⟩ : ∃ w', ((w.alloc (.cells #[.slice a1 n c1, .slice a2 m c2] 29)).alloc (.cells #[.int .i64 0, .int .i64 0] 40)) = w' := ⟨_, rfl⟩
  rw [hwA] at H0 ⊢
  clear hwA
  refine (HV.out _ H0.out.2.2.1 H0.out.2.2.2.1).mono ?_
  rintro e w1 ⟨rfl, hb⟩
  have H1 := Lib.hid (And.intro (H0.out.1.all hb) (And.intro (H0.out.2.1.all hb) (And.intro (H0.out.2.2.1.below hb) (And.intro (H0.out.2.2.2.1.below hb) (bthen H0.out.2.2.2.2 hb)))))
  clear hb H0
  obtain ⟨x0, x1, x2, x3, x4⟩ := H1.out.1
  obtain ⟨y0, y1, y2, y3, y4⟩ := H1.out.2.1
  cases ok with
  | false =>
    have HC := Lib.hid (show lrV vs fs n m (B30.sumW (B30.mnR vs fs) n) = zeroF by unfold lrV; rw [HQ.out]; rfl)
    go_wp2_with fail
    refine bodyPost_ret (v := .tuple #[.agg #[.int .i64 0, .int .i64 0], .bool false]) (by simp [results, Tryz.results19, go_sem, *]) rfl ⟨by rw [HC.out]; rfl, ?_⟩
    exact below_two H1.out.2.2.2.2 (by omega) _ _
  | true =>
    obtain ⟨rfl, hq⟩ := lawQ_of HL.out HQ.out
    obtain ⟨p, q, b', hform⟩ := fracV_form' (B30.sumW (B30.mnR vs fs) m)
    have HC := Lib.hid (show lrV vs fs m m (B30.sumW (B30.mnR vs fs) m) = .tuple #[.agg #[.int .i64 p, .int .i64 q], .bool b'] by unfold lrV; rw [HQ.out, if_pos rfl, hform])
    have hvb : ∀ k, k < m → bitsR ((vs.getD k 0 : Int) : Rat) 50 := fun k hk => bits_val (hq.rng k hk).1 (hq.rng k hk).2
    have HS := Lib.hid (pmean0_any 32 (fun k => ((vs.getD k 0 : Int) : Rat)) 50 a1 a2 m c1 c2 vs fs w1 hq.n64 (by omega) H1.out.2.2.1 H1.out.2.2.2.1 hq.ok hvb (fun _ _ => by kernel_rfl) (fun k hk wr hb => whole_rr (vs.getD k 0) wr (by have := hq.rng k hk; omega) (by have := hq.rng k hk; omega)))
    have HB := Lib.hid (pm_bits (G := fun k => ((vs.getD k 0 : Int) : Rat)) (fs := fs) (n := m) hq.ok hvb)
    have hm64 := hq.n64
    rw [pm_sum] at HS HB
    have HFO := Lib.hid hform
    clear hform hq hvb
    go_wp2_with fail
    refine HS.out.mono ?_
    rintro e w2 ⟨sg, d1, k1, l1, d2, k2, l2, rfl, hv, hb, hsg⟩
    have HFR := Lib.hid (fraction_rr (B30.sumW (B30.mnR vs fs) m) ((50 + 61) * m + 1) d1 d2 k1 k2 l1 l2 w2 hv HB.out (by omega))
    rw [HFO.out, ← hsg] at HFR
    have H2 := Lib.hid (And.intro (H1.out.2.1.all hb) (bthen H1.out.2.2.2.2 hb))
    clear hb x0 x1 x2 x3 x4 y0 y1 y2 y3 y4 hv hsg
    obtain ⟨y0, y1, y2, y3, y4⟩ := H2.out.1
    go_wp2_with fail
    refine HFR.out.mono ?_
    rintro e w3 ⟨rfl, hb⟩
    have H3 := Lib.hid (And.intro (H2.out.1.all hb) (bthen H2.out.2 hb))
    clear hb y0 y1 y2 y3 y4
    obtain ⟨y0, y1, y2, y3, y4⟩ := H3.out.1
    go_wp2_with fail
    refine bodyPost_ret (v := .tuple #[.agg #[.int .i64 p, .int .i64 q], .bool b']) (by simp [results, Tryz.results19, go_sem, *]) rfl ⟨by rw [HC.out], ?_⟩
    exact below_two H3.out.2 (by omega) _ _
end Go.Proofs.YtaneocedklnajaaGreat

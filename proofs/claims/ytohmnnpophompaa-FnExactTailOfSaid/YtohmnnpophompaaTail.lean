import Derived.Test.YtohmnnpophompaaSumO
/- The tails of a law: both sides. No condition. -/
namespace Go.Proofs.Ytohmnnpophompaa
open Go.RowKit
set_option linter.unusedVariables false

def tlQ (vs : List Int) (v : Int) (k : Nat) : Bool := decide (v ≤ vs.getD k 0)
/-- What both sides answer for a tail. -/
def tlV (vs fs : List Int) (n m : Nat) (v : Int) : Value := if lawOk vs fs n m then fracV (pickR fs (tlQ vs v) n) else zeroF
theorem fracV_form (r : Rat) : ∃ p q b, fracV r = .tuple #[.agg #[.int .i64 p, .int .i64 q], .bool b] := by unfold fracV; split <;> exact ⟨_, _, _, rfl⟩
theorem tlV_form (vs fs : List Int) (n m : Nat) (v : Int) : ∃ p q b, tlV vs fs n m v = .tuple #[.agg #[.int .i64 p, .int .i64 q], .bool b] := by
  unfold tlV zeroF; split
  · exact fracV_form _
  · exact ⟨_, _, _, rfl⟩
set_option maxHeartbeats 800000 in
theorem tail1_any (b b2 k n : Nat) (a1 : Option Addr) (c1 : Nat) (C : Value) (vs : List Int) (v : Int) (w : World) (hk : k < n) (hn : n ≤ 64) (hb : C2 w b (.slice a1 n c1) C) (hv : w.cell? ⟨b2, 0, none⟩ = some (.int .i64 v)) (hx : IsInts w a1 n vs) :
    Calls Try.prog 81 #[.int .i64 (k : Nat), .pointer (some ⟨b, 0, none⟩), .pointer (some ⟨b2, 0, none⟩)] w fun e w' => e = .returned (.bool (tlQ vs v k)) ∧ Below w.heap.size w w' := by
  obtain ⟨x0, x1, x2, x3, x4⟩ := hb
  obtain ⟨g, off, rfl, c⟩ := hx.at hk
  have HQ := Lib.hid (show tlQ vs v k = decide (v ≤ vs.getD k 0) from rfl)
  obtain ⟨x, hxx⟩ : ∃ x, vs.getD k 0 = x := ⟨_, rfl⟩
  rw [hxx] at c HQ
  have hk0 : (0:Int) ≤ (k:Int) := by omega
  have hkl : (k:Int) < (n:Int) := by omega
  clear hxx hx
  go_enter Try.func81, Try.ntmps81
  go_wp2_with fail
  go_quiet (fail)
  go_wp2
  go_ret
  exact ⟨by rw [HQ.out]; rfl, drewN_below _ _⟩
set_option maxHeartbeats 1600000 in
theorem tailOf_any (a1 a2 : Option Addr) (n m c1 c2 : Nat) (vs fs : List Int) (v : Int) (w : World) (hn : n ≤ 1048576) (hm : m ≤ 1048576) (h1 : IsInts w a1 n vs) (h2 : IsInts w a2 (m * 2) fs) :
    Calls Try.prog 36 #[.agg #[.slice a1 n c1, .slice a2 m c2], .int .i64 v] w fun e w' => e = .returned (tlV vs fs n m v) ∧ Below w.heap.size w w' := by
  have hl := h1.1
  obtain ⟨t0, t1, t2⟩ := three_boxes w (.cells #[.slice a1 n c1, .slice a2 m c2] 43) (.cells #[.int .i64 v] 2) (.cells #[.int .i64 0, .int .i64 0] 33)
  have hA : Below w.heap.size w (((w.alloc (.cells #[.slice a1 n c1, .slice a2 m c2] 43)).alloc (.cells #[.int .i64 v] 2)).alloc (.cells #[.int .i64 0, .int .i64 0] 33)) := (((Below.refl _ w).alloc (Nat.le_refl _) _).alloc (by simp) _).alloc (by simp only [alloc_size]; omega) _
  have hvc : (((w.alloc (.cells #[.slice a1 n c1, .slice a2 m c2] 43)).alloc (.cells #[.int .i64 v] 2)).alloc (.cells #[.int .i64 0, .int .i64 0] 33)).cell? ⟨w.heap.size + 1, 0, none⟩ = some (.int .i64 v) := by simp only [World.cell?, t1]; rfl
  have H0 := Lib.hid (And.intro (C2.of_heap t0) (And.intro (C2.of_heap t2) (And.intro (h1.below hA) (And.intro (h2.below hA) (And.intro hA hvc)))))
  have HV := Lib.hid (fun w h1 h2 => validLaw_any a1 a2 n m c1 c2 vs fs w hn hm h1 h2)
  clear hA hvc t0 t1 t2 h1 h2
  obtain ⟨ok, hok⟩ : ∃ ok, lawOk vs fs n m = ok := ⟨_, rfl⟩
  rw [hok] at HV
  have HQ := Lib.hid hok
  have HL := Lib.hid hl
  clear hok hl
  go_enter Try.func36, Try.ntmps36
  go_wp2_with fail
  obtain ⟨wA, hwA⟩ : ∃ w', (((w.alloc (.cells #[.slice a1 n c1, .slice a2 m c2] 43)).alloc (.cells #[.int .i64 v] 2)).alloc (.cells #[.int .i64 0, .int .i64 0] 33)) = w' := ⟨_, rfl⟩
  rw [hwA] at H0 ⊢
  clear hwA
  refine (HV.out _ H0.out.2.2.1 H0.out.2.2.2.1).mono ?_
  rintro e w1 ⟨rfl, hb⟩
  have H1 := Lib.hid (And.intro (H0.out.1.all hb) (And.intro (H0.out.2.1.all hb) (And.intro (H0.out.2.2.1.below hb) (And.intro (H0.out.2.2.2.1.below hb) (And.intro (bthen H0.out.2.2.2.2.1 hb) ((hb.cell (p := ⟨w.heap.size + 1, 0, none⟩) (World.block_lt_of_cell? wA _ H0.out.2.2.2.2.2)).trans H0.out.2.2.2.2.2))))))
  clear hb H0
  obtain ⟨x0, x1, x2, x3, x4⟩ := H1.out.1
  obtain ⟨y0, y1, y2, y3, y4⟩ := H1.out.2.1
  cases ok with
  | false =>
    have HC := Lib.hid (show tlV vs fs n m v = zeroF by unfold tlV; rw [HQ.out]; rfl)
    go_wp2_with fail
    refine bodyPost_ret (v := .tuple #[.agg #[.int .i64 0, .int .i64 0], .bool false]) (by simp [results, Try.results36, go_sem, *]) rfl ⟨by rw [HC.out]; rfl, ?_⟩
    exact below_two H1.out.2.2.2.2.1 (by omega) _ _
  | true =>
    obtain ⟨rfl, hq⟩ := lawQ_of HL.out HQ.out
    obtain ⟨p, q, b', hform⟩ := fracV_form (pickR fs (tlQ vs v) m)
    have HC := Lib.hid (show tlV vs fs m m v = .tuple #[.agg #[.int .i64 p, .int .i64 q], .bool b'] by unfold tlV; rw [HQ.out, if_pos rfl, hform])
    have HS := Lib.hid (sumOver_any 81 ⟨w.heap.size, 0, none⟩ ⟨w.heap.size + 1, 0, none⟩ (tlQ vs v) a1 a2 m m c1 c2 vs fs w1 hq.n64 H1.out.2.2.2.1 hq.ok (fun _ _ => by kernel_rfl) (fun k hk wr hb =>
      tail1_any w.heap.size (w.heap.size + 1) k m a1 c1 _ vs v wr hk hq.n64 (H1.out.1.all hb) ((hb.cell (p := ⟨w.heap.size + 1, 0, none⟩) (World.block_lt_of_cell? w1 _ H1.out.2.2.2.2.2)).trans H1.out.2.2.2.2.2) (H1.out.2.2.1.below hb)))
    rw [hform] at HS
    clear hform hq
    go_wp2_with fail
    refine HS.out.mono ?_
    rintro e w2 ⟨rfl, hb⟩
    have H2 := Lib.hid (And.intro (H1.out.2.1.all hb) (bthen H1.out.2.2.2.2.1 hb))
    clear hb x0 x1 x2 x3 x4 y0 y1 y2 y3 y4
    obtain ⟨y0, y1, y2, y3, y4⟩ := H2.out.1
    go_wp2_with fail
    refine bodyPost_ret (v := .tuple #[.agg #[.int .i64 p, .int .i64 q], .bool b']) (by simp [results, Try.results36, go_sem, *]) rfl ⟨by rw [HC.out], ?_⟩
    exact below_two H2.out.2 (by omega) _ _
/-- The reference's loop: the sum of the first chances lies in block b6. -/
structure TsI (w : World) (V C : Value) (a1 a2 : Option Addr) (n : Nat) (vs fs : List Int) (b6 : Nat) (r : Rat) (wr : World) : Prop where
  bx : C2 wr w.heap.size V C
  res : C2 wr (w.heap.size + 1) (.int .i64 0) (.int .i64 0)
  sb : C2 wr b6 (.int .i64 r.num) (.int .i64 (r.den : Nat))
  lt : w.heap.size + 1 < b6
  val : IsInts wr a1 n vs
  cha : IsInts wr a2 (n * 2) fs
  bel : Below w.heap.size w wr
theorem TsI.all {w wr wx : World} {V C : Value} {a1 a2 : Option Addr} {n b6 : Nat} {vs fs : List Int} {r : Rat} (h : TsI w V C a1 a2 n vs fs b6 r wr) (hb : Below wr.heap.size wr wx) : TsI w V C a1 a2 n vs fs b6 r wx := ⟨h.bx.all hb, h.res.all hb, h.sb.all hb, h.lt, h.val.below hb, h.cha.below hb, bthen h.bel hb⟩
set_option maxRecDepth 20000 in
set_option maxHeartbeats 6400000 in
theorem specTailOf_any (a1 a2 : Option Addr) (n m c1 c2 : Nat) (vs fs : List Int) (v : Int) (w : World) (hn : n ≤ 1048576) (hm : m ≤ 1048576) (h1 : IsInts w a1 n vs) (h2 : IsInts w a2 (m * 2) fs) :
    Calls Try.prog 35 #[.agg #[.slice a1 n c1, .slice a2 m c2], .int .i64 v] w fun e w' => e = .returned (tlV vs fs n m v) ∧ Below w.heap.size w w' := by
  have hl := h1.1
  have hA : Below w.heap.size w ((w.alloc (.cells #[.slice a1 n c1, .slice a2 m c2] 43)).alloc (.cells #[.int .i64 0, .int .i64 0] 33)) := ((Below.refl _ w).alloc (Nat.le_refl _) _).alloc (by simp) _
  have hc0 : C2 ((w.alloc (.cells #[.slice a1 n c1, .slice a2 m c2] 43)).alloc (.cells #[.int .i64 0, .int .i64 0] 33)) w.heap.size (.slice a1 n c1) (.slice a2 m c2) := (C2.new w _ _ _).all ((Below.refl _ _).alloc (Nat.le_refl _) _)
  have hc1 : C2 ((w.alloc (.cells #[.slice a1 n c1, .slice a2 m c2] 43)).alloc (.cells #[.int .i64 0, .int .i64 0] 33)) (w.heap.size + 1) (.int .i64 0) (.int .i64 0) := by
    have := C2.new (w.alloc (.cells #[.slice a1 n c1, .slice a2 m c2] 43)) 33 (.int .i64 0) (.int .i64 0)
    rw [alloc_size] at this; exact this
  have H0 := Lib.hid (And.intro hc0 (And.intro hc1 (And.intro (h1.below hA) (And.intro (h2.below hA) hA))))
  have HV := Lib.hid (fun w (b : Nat) h0 h1 h2 => l05Is_any b a1 a2 n m c1 c2 vs fs w hn hm h0 h1 h2)
  have HX2 := Lib.hid h2
  have HX1 := Lib.hid h1
  clear hA hc0 hc1 h1 h2
  obtain ⟨ok, hok⟩ : ∃ ok, lawOk vs fs n m = ok := ⟨_, rfl⟩
  rw [hok] at HV
  have HQ := Lib.hid hok
  have HL := Lib.hid hl
  clear hok hl
  go_enter Try.func35, Try.ntmps35
  go_wp2_with fail
  obtain ⟨wA, hwA⟩ : ∃ w', ((w.alloc (.cells #[.slice a1 n c1, .slice a2 m c2] 43)).alloc (.cells #[.int .i64 0, .int .i64 0] 33)) = w' := ⟨_, rfl⟩
  rw [hwA] at H0 ⊢
  clear hwA
  refine (HV.out _ _ H0.out.1 H0.out.2.2.1 H0.out.2.2.2.1).mono ?_
  rintro e w1 ⟨rfl, hb⟩
  have H1 := Lib.hid (And.intro (H0.out.1.all hb) (And.intro (H0.out.2.1.all hb) (And.intro (H0.out.2.2.1.below hb) (And.intro (H0.out.2.2.2.1.below hb) (bthen H0.out.2.2.2.2 hb)))))
  clear hb H0
  obtain ⟨y0, y1, y2, y3, y4⟩ := H1.out.2.1
  cases ok with
  | false =>
    have HC := Lib.hid (show tlV vs fs n m v = zeroF by unfold tlV; rw [HQ.out]; rfl)
    go_wp2_with fail
    refine bodyPost_ret (v := .tuple #[.agg #[.int .i64 0, .int .i64 0], .bool false]) (by simp [results, Try.results35, go_sem, *]) rfl ⟨by rw [HC.out]; rfl, ?_⟩
    exact below_two H1.out.2.2.2.2 (by omega) _ _
  | true =>
    obtain ⟨rfl, hq⟩ := lawQ_of HL.out HQ.out
    have HT := Lib.hid (show tlV vs fs m m v = fracV (pickR fs (tlQ vs v) m) by unfold tlV; rw [HQ.out]; rfl)
    have HLQ := Lib.hid hq
    clear hq
    go_wp2_with fail
    refine (l05Zero_any _).mono ?_
    rintro e w2 ⟨rfl, hb⟩
    have hb3 : Below w2.heap.size w2 (w2.alloc (.cells #[.int .i64 0, .int .i64 1] 33)) := (Below.refl _ _).alloc (Nat.le_refl _) _
    have hbb := bthen hb hb3
    have H3 := Lib.hid (show TsI w (.slice a1 m c1) (.slice a2 m c2) a1 a2 m vs fs w2.heap.size (sumR fs 0) (w2.alloc (.cells #[.int .i64 0, .int .i64 1] 33)) from
      ⟨H1.out.1.all hbb, H1.out.2.1.all hbb, C2.new w2 _ _ _, by have := (H1.out.2.1.all hb).lt; omega, H1.out.2.2.1.below hbb, H1.out.2.2.2.1.below hbb, bthen H1.out.2.2.2.2 hbb⟩)
    clear hb hb3 hbb H1 y0 y1 y2 y3 y4 HQ HL HV
    go_wp2_with fail
    obtain ⟨b6, hb6⟩ : ∃ b, w2.heap.size = b := ⟨_, rfl⟩
    obtain ⟨w3, hw3⟩ : ∃ w', w2.alloc (.cells #[.int .i64 0, .int .i64 1] 33) = w' := ⟨_, rfl⟩
    rw [hb6, hw3] at H3
    rw [hw3, hb6]
    clear hw3 hb6
    go_loopw [7] (fun i wr => ∃ k : Nat, k ≤ m ∧ i = .int .i64 (k : Nat) ∧ Hid (TsI w (.slice a1 m c1) (.slice a2 m c2) a1 a2 m vs fs b6 (sumR fs k) wr ∧ ∀ j, j < k → tlQ vs v j = false)) (fun i _ => m - (intOf i).toNat)
    case atStart => exact ⟨0, Nat.zero_le _, rfl, Lib.hid ⟨H3.out, fun j hj => by omega⟩⟩
    case round =>
      clear H3
      obtain ⟨k, hk, rfl, HS⟩ := hrel
      obtain ⟨x0, x1, x2, x3, x4⟩ := HS.out.1.bx
      obtain ⟨z0, z1, z2, z3, z4⟩ := HS.out.1.sb
      have hk0 : (0:Int) ≤ (k:Int) := by omega
      by_cases hgo : k < m ∧ vs.getD k 0 < v
      · obtain ⟨hlt, hvv⟩ := hgo
        have hkl : (k:Int) < (m:Int) := by omega
        have hok := HLQ.out.ok k hlt
        have hfk := HLQ.out.fit k hk
        have hfk1 := HLQ.out.fit (k + 1) (by omega)
        have HTQ := Lib.hid (show tlQ vs v k = false from decide_eq_false (by omega))
        obtain ⟨g, og, rfl, c⟩ := HS.out.1.val.at hlt
        obtain ⟨b, off, rfl, d1, d2⟩ := fr_at HS.out.1.cha hlt
        have HC := Lib.hid (fun w => fadd_v (sumR fs k).num (frN fs k) ((sumR fs k).den : Int) (frD fs k) w (vF_fit hfk) hok)
        rw [Int.toNat_natCast, mk_self, show sumR fs k + mkRat (frN fs k) (frD fs k).toNat = sumR fs (k + 1) from rfl, fracV_yes hfk1] at HC
        have hbw : b < w.heap.size := by
          obtain ⟨b', off', e', c'⟩ := HX2.out.at (show k * 2 < m * 2 by omega)
          simp only [Option.some.injEq, Addr.mk.injEq] at e'
          obtain ⟨rfl, rfl, _⟩ := e'
          exact World.block_lt_of_cell? w _ c'
        obtain ⟨x, hx⟩ : ∃ x, frN fs k = x := ⟨_, rfl⟩
        obtain ⟨y, hy⟩ : ∃ y, frD fs k = y := ⟨_, rfl⟩
        obtain ⟨N1, hN1⟩ : ∃ y, (sumR fs k).num = y := ⟨_, rfl⟩
        obtain ⟨D1, hD1⟩ : ∃ y, (((sumR fs k).den : Nat) : Int) = y := ⟨_, rfl⟩
        obtain ⟨u, hu⟩ : ∃ u, vs.getD k 0 = u := ⟨_, rfl⟩
        rw [hx, hy, hN1, hD1] at HC
        rw [hx] at d1
        rw [hy] at d2
        rw [hN1] at z0
        rw [hD1] at z1
        rw [hu] at c hvv
        clear hx hy hN1 hD1 hu hok hfk hfk1
        go_wp2_with fail
        refine wp_region_any (by kernel_rfl) (any_of_K (k := 10) (S := fun w' => w'.cell? ⟨b6, 0, none⟩ = some (.int .i64 N1) ∧ w'.cell? ⟨b6, 1, none⟩ = some (.int .i64 D1)) (T := fun w' => w'.cell? ⟨w.heap.size, 1, none⟩ = some (.slice (some ⟨b, off, none⟩) m c2) ∧ w'.cell? ⟨b, off + k * 2, none⟩ = some (.int .i64 x) ∧ w'.cell? ⟨b, off + k * 2 + 1, none⟩ = some (.int .i64 y)) _ _ _ _ ?_)
        have hS : wr.drew.cell? ⟨b6, 0, none⟩ = some (.int .i64 N1) ∧ wr.drew.cell? ⟨b6, 1, none⟩ = some (.int .i64 D1) := ⟨z0, z1⟩
        have hT : wr.drew.cell? ⟨w.heap.size, 1, none⟩ = some (.slice (some ⟨b, off, none⟩) m c2) ∧ wr.drew.cell? ⟨b, off + k * 2, none⟩ = some (.int .i64 x) ∧ wr.drew.cell? ⟨b, off + k * 2 + 1, none⟩ = some (.int .i64 y) := ⟨x1, d1, d2⟩
        refine anyK_take (i := 0) (n := 10) (v := .agg #[.int .i64 N1, .int .i64 D1]) rfl rfl (by kernel_rfl) (by kernel_rfl) (by kernel_rfl) (by kernel_rfl) (by kernel_rfl) (fun _ _ _ h => h) (Or.inl ⟨by kernel_rfl, fun w' hw => by (obtain ⟨q1, q2⟩ := hw; go_simp)⟩) hS hT ?_
        refine anyT_take (i := 1) (n := 9) (v := .pointer (some ⟨w.heap.size, 1, none⟩)) rfl (by decide) (by kernel_rfl) (by kernel_rfl) (by kernel_rfl) (fun _ _ _ h => h) (Or.inl ⟨by kernel_rfl, fun w' hw => by go_simp⟩) hS hT ?_
        refine anyT_take (i := 2) (n := 8) (v := .slice (some ⟨b, off, none⟩) m c2) rfl (by decide) (by kernel_rfl) (by kernel_rfl) (by kernel_rfl) (fun _ _ _ h => h) (Or.inl ⟨by kernel_rfl, fun w' hw => by (obtain ⟨q1, q2, q3⟩ := hw; go_simp)⟩) hS hT ?_
        refine anyT_take (i := 3) (n := 7) (v := .int .i64 (k : Nat)) rfl (by decide) (by kernel_rfl) (by kernel_rfl) (by kernel_rfl) (fun _ _ _ h => h) (Or.inl ⟨by kernel_rfl, fun w' hw => by kernel_rfl⟩) hS hT ?_
        refine anyT_take (i := 4) (n := 6) (v := .pointer (some ⟨b, off + k * 2, none⟩)) rfl (by decide) (by kernel_rfl) (by kernel_rfl) (by kernel_rfl) (fun _ _ _ h => h) (Or.inl ⟨by kernel_rfl, fun w' hw => by go_simp⟩) hS hT ?_
        refine anyT_take (i := 5) (n := 5) (v := .agg #[.int .i64 x, .int .i64 y]) rfl (by decide) (by kernel_rfl) (by kernel_rfl) (by kernel_rfl) (fun _ _ _ h => h) (Or.inl ⟨by kernel_rfl, fun w' hw => by (obtain ⟨q1, q2, q3⟩ := hw; go_simp)⟩) hS hT ?_
        have hbl : b < wr.heap.size := World.block_lt_of_cell? wr _ d1
        have H4 := Lib.hid (And.intro (HS.out.1.all (Below.refl _ wr).drew) (And.intro hS (And.intro hT (And.intro z4 (And.intro x4 hbl)))))
        clear hS hT z0 z1 z2 z3 z4 x0 x1 x2 x3 x4 c d1 d2 hbl
        refine anyK_all (n := 4) (rs := [6]) (by kernel_rfl) (by simp) (fun i hi => ?_)
        simp only [List.mem_cons, List.not_mem_nil, or_false] at hi
        obtain rfl := hi
        refine wpOp_step rfl (fun K' hK => ?_)
        go_simp
        refine (HC.out wr.drew).mono ?_
        rintro e w5 ⟨rfl, hb5⟩
        have hS : w5.cell? ⟨b6, 0, none⟩ = some (.int .i64 N1) ∧ w5.cell? ⟨b6, 1, none⟩ = some (.int .i64 D1) := ⟨(hb5.cell (p := ⟨b6, 0, none⟩) H4.out.2.2.2.1).trans H4.out.2.1.1, (hb5.cell (p := ⟨b6, 1, none⟩) H4.out.2.2.2.1).trans H4.out.2.1.2⟩
        have hT : w5.cell? ⟨w.heap.size, 1, none⟩ = some (.slice (some ⟨b, off, none⟩) m c2) ∧ w5.cell? ⟨b, off + k * 2, none⟩ = some (.int .i64 x) ∧ w5.cell? ⟨b, off + k * 2 + 1, none⟩ = some (.int .i64 y) :=
          ⟨(hb5.cell (p := ⟨w.heap.size, 1, none⟩) H4.out.2.2.2.2.1).trans H4.out.2.2.1.1, (hb5.cell (p := ⟨b, off + k * 2, none⟩) H4.out.2.2.2.2.2).trans H4.out.2.2.1.2.1, (hb5.cell (p := ⟨b, off + k * 2 + 1, none⟩) H4.out.2.2.2.2.2).trans H4.out.2.2.1.2.2⟩
        have H5 := Lib.hid (H4.out.1.all hb5)
        refine hK _ _ ⟨fun _ _ => hS, hT, ?_⟩
        clear hK hb5 H4
        refine anyT_take (i := 7) (n := 3) (v := .tuple #[.agg #[.int .i64 (sumR fs (k + 1)).num, .int .i64 ((sumR fs (k + 1)).den : Nat)], .bool true]) rfl (by decide) (by kernel_rfl) (by kernel_rfl) (by kernel_rfl) (fun _ _ _ h => h) (Or.inl ⟨by kernel_rfl, fun w' hw => by kernel_rfl⟩) hS hT ?_
        refine anyT_take (i := 8) (n := 2) (v := .agg #[.int .i64 (sumR fs (k + 1)).num, .int .i64 ((sumR fs (k + 1)).den : Nat)]) rfl (by decide) (by kernel_rfl) (by kernel_rfl) (by kernel_rfl) (fun _ _ _ h => h) (Or.inl ⟨by kernel_rfl, fun w' hw => by kernel_rfl⟩) hS hT ?_
        refine anyT_take (i := 9) (n := 1) (v := .bool true) rfl (by decide) (by kernel_rfl) (by kernel_rfl) (by kernel_rfl) (fun _ _ _ h => h) (Or.inl ⟨by kernel_rfl, fun w' hw => by kernel_rfl⟩) hS hT ?_
        clear hS
        refine anyK_all (n := 0) (rs := [10]) (by kernel_rfl) (by simp) (fun i hi => ?_)
        simp only [List.mem_cons, List.not_mem_nil, or_false] at hi
        obtain rfl := hi
        obtain ⟨z0, z1, z2, z3, z4⟩ := H5.out.sb
        have hlt5 := H5.out.lt
        have hcb : ∀ (o1 o2 : Nat) (g : Nat) (o : Nat) (p q z : Value), g ≠ b6 → w5.cell? ⟨g, o, none⟩ = some z → ((w5.setCell ⟨b6, o1, none⟩ p).setCell ⟨b6, o2, none⟩ q).cell? ⟨g, o, none⟩ = some z := fun o1 o2 g o p q z hne h => by
          rw [World.cell?_setCell_other _ _ _ _ (fun e => by injection e; omega), World.cell?_setCell_other _ _ _ _ (fun e => by injection e; omega)]; exact h
        have hT2 := And.intro (hcb 0 1 w.heap.size 1 (.int .i64 (sumR fs (k + 1)).num) (.int .i64 ((sumR fs (k + 1)).den : Nat)) _ (by omega) hT.1) (And.intro (hcb 0 1 b (off + k * 2) (.int .i64 (sumR fs (k + 1)).num) (.int .i64 ((sumR fs (k + 1)).den : Nat)) _ (by omega) hT.2.1) (hcb 0 1 b (off + k * 2 + 1) (.int .i64 (sumR fs (k + 1)).num) (.int .i64 ((sumR fs (k + 1)).den : Nat)) _ (by omega) hT.2.2))
        have HT2 := Lib.hid hT2
        clear hcb hT hT2
        have H6 := Lib.hid (show TsI w (.slice (some ⟨g, og, none⟩) m c1) (.slice (some ⟨b, off, none⟩) m c2) (some ⟨g, og, none⟩) (some ⟨b, off, none⟩) m vs fs b6 (sumR fs (k + 1)) ((w5.setCell ⟨b6, 0, none⟩ (.int .i64 (sumR fs (k + 1)).num)).setCell ⟨b6, 1, none⟩ (.int .i64 ((sumR fs (k + 1)).den : Nat))) from
          ⟨H5.out.bx.other2 (by omega) _ _, H5.out.res.other2 (by omega) _ _, H5.out.sb.two _ _, hlt5, HX1.out.below (below_two H5.out.bel (by omega) _ _), HX2.out.below (below_two H5.out.bel (by omega) _ _), below_two H5.out.bel (by omega) _ _⟩)
        refine wpOp_step rfl (fun K' hK => ?_)
        go_simp
        refine hK _ _ ⟨fun h => absurd rfl h, HT2.out, ?_⟩
        clear hK HT2 z0 z1 z2 z3 z4 H5
        refine ⟨by kernel_rfl, ?_⟩
        go_wp2
        go_roundw
        case rel => exact ⟨k + 1, by omega, by go_num, Lib.hid ⟨H6.out, fun j hj => by
          rcases Nat.lt_or_ge j k with h | h
          · exact HS.out.2 j h
          · obtain rfl : j = k := by omega
            exact HTQ.out⟩⟩
        case measure => simp [intOf]; omega
      · have hex : k = m ∨ (k < m ∧ v ≤ vs.getD k 0) := by omega
        have HE := Lib.hid (show 1 + -(sumR fs k) = pickR fs (tlQ vs v) m from left_one (by
          rw [pick_split hk HS.out.2 (fun j h1 h2 => decide_eq_true (by
            have hkm : k < m := by omega
            have hv : v ≤ vs.getD k 0 := by omega
            rcases Nat.lt_or_ge k j with h | h
            · have := HLQ.out.mono k j h h2; omega
            · obtain rfl : j = k := by omega
              exact hv))]
          exact HLQ.out.one))
        have hfk := HLQ.out.fit k hk
        have hp := fit_parts hfk
        have HN := Lib.hid (fun w => l01FNeg_any (sumR fs k).num ((sumR fs k).den : Int) w (by omega))
        have HFA := Lib.hid (fun w => fadd_v 1 (-(sumR fs k).num) 1 ((sumR fs k).den : Int) w (by decide) (by
          have := vF_fit hfk
          rw [vF_iff] at this ⊢
          refine ⟨this.1, ⟨by omega, by omega⟩, ?_⟩
          rw [Int.natAbs_neg]; exact this.2.2))
        rw [Int.toNat_natCast, show mkRat 1 (1 : Int).toNat = 1 from rfl, show mkRat (-(sumR fs k).num) (sumR fs k).den = -(sumR fs k) from mk_self (-(sumR fs k)), HE.out] at HFA
        obtain ⟨p', q', b', hform⟩ := fracV_form (pickR fs (tlQ vs v) m)
        rw [hform] at HFA
        have HC := Lib.hid (show tlV vs fs m m v = .tuple #[.agg #[.int .i64 p', .int .i64 q'], .bool b'] by rw [HT.out, hform])
        obtain ⟨N1, hN1⟩ : ∃ y, (sumR fs k).num = y := ⟨_, rfl⟩
        obtain ⟨D1, hD1⟩ : ∃ y, (((sumR fs k).den : Nat) : Int) = y := ⟨_, rfl⟩
        rw [hN1, hD1] at HN HFA
        rw [hN1] at z0
        rw [hD1] at z1
        clear hfk hp hform hN1 hD1 hgo
        rcases hex with rfl | ⟨hlt, hvv⟩
        rotate_left
        have hkl : (k:Int) < (m:Int) := by omega
        obtain ⟨g, og, rfl, c⟩ := HS.out.1.val.at hlt
        obtain ⟨u, hu⟩ : ∃ u, vs.getD k 0 = u := ⟨_, rfl⟩
        rw [hu] at c hvv
        clear hu
        have hnv : ¬ u < v := by omega
        all_goals (go_wp2_with fail)
        all_goals (refine (HN.out _).mono ?_)
        all_goals (rintro e w5 ⟨rfl, hb5⟩)
        all_goals (have H5 := Lib.hid (HS.out.1.all hb5))
        all_goals (clear hb5)
        all_goals (go_wp2_with fail)
        all_goals (refine (HFA.out _).mono ?_)
        all_goals (rintro e w6 ⟨rfl, hb6⟩)
        all_goals (have H6 := Lib.hid (H5.out.all hb6))
        all_goals (clear hb6 x0 x1 x2 x3 x4 z0 z1 z2 z3 z4)
        all_goals (obtain ⟨y0, y1, y2, y3, y4⟩ := H6.out.res)
        all_goals (go_wp2_with fail)
        all_goals refine bodyPost_ret (v := .tuple #[.agg #[.int .i64 p', .int .i64 q'], .bool b']) (by simp [results, Try.results35, go_sem, *]) rfl ⟨by rw [HC.out], ?_⟩
        all_goals exact below_two H6.out.bel (by omega) _ _
theorem fnExactTailOf_walk (a1 a2 : Option Addr) (n m c1 c2 : Nat) (vs fs : List Int) (v : Int) (w : World) (hn : n ≤ maxLen) (hm : m ≤ maxLen) (h1 : IsInts w a1 n vs) (h2 : IsInts w a2 (m * 2) fs) :
    Calls Try.prog 8 #[.agg #[.slice a1 n c1, .slice a2 m c2], .int .i64 v] w fun e w' => e = .returned (.bool true) ∧ Below w.heap.size w w' := by
  obtain ⟨p, q, b, hf⟩ := tlV_form vs fs n m v
  refine fnExactTailOf_of a1 a2 n m c1 c2 vs fs v w hn hm h1 h2 p q b (fun h w a1 a2 c1 c2 k1 k2 => ?_) (fun h w a1 a2 c1 c2 k1 k2 => ?_)
  · rw [← hf]; exact specTailOf_any a1 a2 n m c1 c2 vs fs v w (by omega) (by omega) k1 k2
  · rw [← hf]; exact tailOf_any a1 a2 n m c1 c2 vs fs v w (by omega) (by omega) k1 k2
end Go.Proofs.Ytohmnnpophompaa

import Derived.Test.YtaneocedklnajaaGreatPMeanX
/- The tails of a law: both sides. No condition. -/
namespace Go.Proofs.YtaneocedklnajaaGreat
open Go.RowKit
set_option linter.unusedVariables false

def tlQ (vs : List Int) (v : Int) (k : Nat) : Bool := decide (v ≤ vs.getD k 0)
/-- What both sides answer for a tail. -/
def tlV (vs fs : List Int) (n m : Nat) (v : Int) : Value := if lawOk vs fs n m then fracV (pickR fs (tlQ vs v) n) else zeroF
theorem fracV_form (r : Rat) : ∃ p q b, fracV r = .tuple #[.agg #[.int .i64 p, .int .i64 q], .bool b] := by unfold fracV; split <;> exact ⟨_, _, _, rfl⟩
theorem tlV_form (vs fs : List Int) (n m : Nat) (v : Int) : ∃ p q b, tlV vs fs n m v = .tuple #[.agg #[.int .i64 p, .int .i64 q], .bool b] := by
  unfold tlV zeroF; split
  · exact fracV_form _
  · exact ⟨_, _, _, rfl⟩
set_option maxHeartbeats 800000 in
theorem tail1_any (b b2 k n : Nat) (a1 : Option Addr) (c1 : Nat) (C : Value) (vs : List Int) (v : Int) (w : World) (hk : k < n) (hn : n ≤ 64) (hb : C2 w b (.slice a1 n c1) C) (hv : w.cell? ⟨b2, 0, none⟩ = some (.int .i64 v)) (hx : IsInts w a1 n vs) :
    Calls Tryz.prog 47 #[.int .i64 (k : Nat), .pointer (some ⟨b, 0, none⟩), .pointer (some ⟨b2, 0, none⟩)] w fun e w' => e = .returned (.bool (tlQ vs v k)) ∧ Below w.heap.size w w' := by
  obtain ⟨x0, x1, x2, x3, x4⟩ := hb
  obtain ⟨g, off, rfl, c⟩ := hx.at hk
  have HQ := Lib.hid (show tlQ vs v k = decide (v ≤ vs.getD k 0) from rfl)
  obtain ⟨x, hxx⟩ : ∃ x, vs.getD k 0 = x := ⟨_, rfl⟩
  rw [hxx] at c HQ
  have hk0 : (0:Int) ≤ (k:Int) := by omega
  have hkl : (k:Int) < (n:Int) := by omega
  clear hxx hx
  go_enter Tryz.func47, Tryz.ntmps47
  go_wp2_with fail
  go_quiet (fail)
  go_wp2
  go_ret
  exact ⟨by rw [HQ.out]; rfl, drewN_below _ _⟩
set_option maxHeartbeats 1600000 in
theorem tailOf_any (a1 a2 : Option Addr) (n m c1 c2 : Nat) (vs fs : List Int) (v : Int) (w : World) (hn : n ≤ 1048576) (hm : m ≤ 1048576) (h1 : IsInts w a1 n vs) (h2 : IsInts w a2 (m * 2) fs) :
    Calls Tryz.prog 14 #[.agg #[.slice a1 n c1, .slice a2 m c2], .int .i64 v] w fun e w' => e = .returned (tlV vs fs n m v) ∧ Below w.heap.size w w' := by
  have hl := h1.1
  obtain ⟨t0, t1, t2⟩ := three_boxes w (.cells #[.slice a1 n c1, .slice a2 m c2] 29) (.cells #[.int .i64 v] 2) (.cells #[.int .i64 0, .int .i64 0] 40)
  have hA : Below w.heap.size w (((w.alloc (.cells #[.slice a1 n c1, .slice a2 m c2] 29)).alloc (.cells #[.int .i64 v] 2)).alloc (.cells #[.int .i64 0, .int .i64 0] 40)) := (((Below.refl _ w).alloc (Nat.le_refl _) _).alloc (by simp) _).alloc (by simp only [alloc_size]; omega) _
  have hvc : (((w.alloc (.cells #[.slice a1 n c1, .slice a2 m c2] 29)).alloc (.cells #[.int .i64 v] 2)).alloc (.cells #[.int .i64 0, .int .i64 0] 40)).cell? ⟨w.heap.size + 1, 0, none⟩ = some (.int .i64 v) := by simp only [World.cell?, t1]; rfl
  have H0 := Lib.hid (And.intro (C2.of_heap t0) (And.intro (C2.of_heap t2) (And.intro (h1.below hA) (And.intro (h2.below hA) (And.intro hA hvc)))))
  have HV := Lib.hid (fun w h1 h2 => validLaw_any a1 a2 n m c1 c2 vs fs w hn hm h1 h2)
  clear hA hvc t0 t1 t2 h1 h2
  obtain ⟨ok, hok⟩ : ∃ ok, lawOk vs fs n m = ok := ⟨_, rfl⟩
  rw [hok] at HV
  have HQ := Lib.hid hok
  have HL := Lib.hid hl
  clear hok hl
  go_enter Tryz.func14, Tryz.ntmps14
  go_wp2_with fail
  obtain ⟨wA, hwA⟩ : ∃ w', (((w.alloc (.cells #[.slice a1 n c1, .slice a2 m c2] 29)).alloc (.cells #[.int .i64 v] 2)).alloc (.cells #[.int .i64 0, .int .i64 0] 40)) = w' := ⟨_, rfl⟩
  rw [hwA] at H0 ⊢
  clear hwA
  refine (HV.out _ H0.out.2.2.1 H0.out.2.2.2.1).mono ?_
  rintro e w1 ⟨rfl, hb⟩
  have H1 := Lib.hid (And.intro (H0.out.1.all hb) (And.intro (H0.out.2.1.all hb) (And.intro (H0.out.2.2.1.below hb) (And.intro (H0.out.2.2.2.1.below hb) (And.intro (bthen H0.out.2.2.2.2.1 hb) ((hb.cell (p := ⟨w.heap.size + 1, 0, none⟩) (World.block_lt_of_cell? wA _ H0.out.2.2.2.2.2)).trans H0.out.2.2.2.2.2))))))
  clear hb H0
  obtain ⟨x0, x1, x2, x3, x4⟩ := H1.out.1
  obtain ⟨y0, y1, y2, y3, y4⟩ := H1.out.2.1
  cases ok with
  | false =>
    have HC := Lib.hid (show tlV vs fs n m v = zeroF by unfold tlV; rw [HQ.out]; rfl)
    go_wp2_with fail
    refine bodyPost_ret (v := .tuple #[.agg #[.int .i64 0, .int .i64 0], .bool false]) (by simp [results, Tryz.results14, go_sem, *]) rfl ⟨by rw [HC.out]; rfl, ?_⟩
    exact below_two H1.out.2.2.2.2.1 (by omega) _ _
  | true =>
    obtain ⟨rfl, hq⟩ := lawQ_of HL.out HQ.out
    obtain ⟨p, q, b', hform⟩ := fracV_form (pickR fs (tlQ vs v) m)
    have HC := Lib.hid (show tlV vs fs m m v = .tuple #[.agg #[.int .i64 p, .int .i64 q], .bool b'] by unfold tlV; rw [HQ.out, if_pos rfl, hform])
    have HS := Lib.hid (sumOver_any 47 ⟨w.heap.size, 0, none⟩ ⟨w.heap.size + 1, 0, none⟩ (tlQ vs v) a1 a2 m m c1 c2 vs fs w1 hq.n64 H1.out.2.2.2.1 hq.ok (fun _ _ => by kernel_rfl) (fun k hk wr hb =>
      tail1_any w.heap.size (w.heap.size + 1) k m a1 c1 _ vs v wr hk hq.n64 (H1.out.1.all hb) ((hb.cell (p := ⟨w.heap.size + 1, 0, none⟩) (World.block_lt_of_cell? w1 _ H1.out.2.2.2.2.2)).trans H1.out.2.2.2.2.2) (H1.out.2.2.1.below hb)))
    rw [hform] at HS
    clear hform hq
    go_wp2_with fail
    refine HS.out.mono ?_
    rintro e w2 ⟨rfl, hb⟩
    have H2 := Lib.hid (And.intro (H1.out.2.1.all hb) (bthen H1.out.2.2.2.2.1 hb))
    clear hb x0 x1 x2 x3 x4 y0 y1 y2 y3 y4
    obtain ⟨y0, y1, y2, y3, y4⟩ := H2.out.1
    go_wp2_with fail
    refine bodyPost_ret (v := .tuple #[.agg #[.int .i64 p, .int .i64 q], .bool b']) (by simp [results, Tryz.results14, go_sem, *]) rfl ⟨by rw [HC.out], ?_⟩
    exact below_two H2.out.2 (by omega) _ _
/-- The reference's loop: the sum of the first chances lies in block b6. -/
structure TsI (w : World) (V C : Value) (a1 a2 : Option Addr) (n : Nat) (vs fs : List Int) (b6 : Nat) (r : Rat) (wr : World) : Prop where
  bx : C2 wr w.heap.size V C
  res : C2 wr (w.heap.size + 1) (.int .i64 0) (.int .i64 0)
  sb : C2 wr b6 (.int .i64 r.num) (.int .i64 (r.den : Nat))
  lt : w.heap.size + 1 < b6
  val : IsInts wr a1 n vs
  cha : IsInts wr a2 (n * 2) fs
  bel : Below w.heap.size w wr
theorem TsI.all {w wr wx : World} {V C : Value} {a1 a2 : Option Addr} {n b6 : Nat} {vs fs : List Int} {r : Rat} (h : TsI w V C a1 a2 n vs fs b6 r wr) (hb : Below wr.heap.size wr wx) : TsI w V C a1 a2 n vs fs b6 r wx := ⟨h.bx.all hb, h.res.all hb, h.sb.all hb, h.lt, h.val.below hb, h.cha.below hb, bthen h.bel hb⟩
end Go.Proofs.YtaneocedklnajaaGreat

import Derived.Test.YtaneocedklnajaaGreatNatY
import Derived.Test.YtaneocedklnajaaGreatRatQX
import Derived.Deep.RegionHeld3
import Derived.Deep.RegionWith
import Derived.Deep.MidRow
/- Ratios in memory: a fraction as a ratio, lowest terms, quotients, and the fraction of a ratio. Conditions: the digits' lengths stay below 2 to the power of 29. -/
namespace Go.Proofs.YtaneocedklnajaaGreat
open Go.RowKit
set_option linter.unusedVariables false

theorem bcell {W w1 : World} (hb : Below W.heap.size W w1) : (∀ b o, b < W.heap.size → w1.cell? ⟨b, o, none⟩ = W.cell? ⟨b, o, none⟩) ∧ (∀ b o, b < W.heap.size → w1.frozen? ⟨b, o, none⟩ = W.frozen? ⟨b, o, none⟩) :=
  ⟨fun b o h => hb.cell (p := ⟨b, o, none⟩) h, fun b o h => hb.frozen (p := ⟨b, o, none⟩) h⟩
/-- A call's answer: a sign and two numbers. -/
def RetRaw (w : World) (neg : Bool) (n d : Nat) (e : Ending) (w' : World) : Prop := ∃ a1 c1 a2 c2, e = .returned (.agg #[.bool neg, .slice a1 (digs n).length c1, .slice a2 (digs d).length c2]) ∧ IsU32s w' a1 (digs n).length (digs n) ∧ IsU32s w' a2 (digs d).length (digs d) ∧ Below w.heap.size w w'

theorem size_any (n : Int) (w : World) (h0 : -9223372036854775807 ≤ n) (h1 : n ≤ 9223372036854775807) :
    Calls Tryz.prog 79 #[.int .i64 n] w fun e w' => e = .returned (.int .i64 (n.natAbs : Nat)) ∧ w = w' := by
  have hm : max n (-n) = (n.natAbs : Nat) := by omega
  go_enter Tryz.func79, Tryz.ntmps79
  go_wp2
  go_ret
  exact ⟨rfl, rfl⟩
/-- What a cell holds, whatever it is. -/
def oldVal (w : World) (a : Addr) : Value := (w.cell? a).getD undef
theorem oldVal_of {w : World} {a : Addr} (h : (w.cell? a).isSome = true) : w.cell? a = some (oldVal w a) := by
  unfold oldVal
  cases hc : w.cell? a with
  | none => rw [hc] at h; cases h
  | some v => rfl
theorem some_set {w : World} {b o : Nat} {v : Value} {x : Addr} (h : (w.cell? x).isSome = true) : ((w.setCell ⟨b, o, none⟩ v).cell? x).isSome = true := World.isSome_setCells b [v] o w x h
theorem naturalOf_kept (n b1 b2 : Nat) (w : World) (hn : n < 9223372036854775808) (h1 : b1 < w.heap.size) (h2 : b2 < w.heap.size) :
    Calls Tryz.prog 78 #[.int .i64 (n : Nat)] w fun e w' => ∃ a cap, e = .returned (.slice a (digs n).length cap) ∧ Hid (IsU32s w' a (digs n).length (digs n) ∧ Below w.heap.size w w' ∧ (∀ b f, a = some ⟨b, f, none⟩ → b ≠ b2)) ∧
      (∀ o, w'.cell? ⟨b1, o, none⟩ = w.cell? ⟨b1, o, none⟩) ∧ (∀ o, w'.cell? ⟨b2, o, none⟩ = w.cell? ⟨b2, o, none⟩) ∧ (∀ o, w'.frozen? ⟨b2, o, none⟩ = w.frozen? ⟨b2, o, none⟩) ∧ b1 < w'.heap.size ∧ b2 < w'.heap.size :=
  (naturalOf_F n w hn).mono fun e w' ⟨a, cap, e1, e2, e3, e4, e5⟩ => ⟨a, cap, e1, Lib.hid ⟨e3, e4, fun b f h => by have := e5 b f h; omega⟩, fun o => e4.cell (p := ⟨b1, o, none⟩) h1, fun o => e4.cell (p := ⟨b2, o, none⟩) h2, fun o => e4.frozen (p := ⟨b2, o, none⟩) h2, Nat.lt_of_lt_of_le h1 e4.size, Nat.lt_of_lt_of_le h2 e4.size⟩
/-- Three cells of a block are written. -/
def set3 (w : World) (b : Nat) (x y z : Value) : World := ((w.setCell ⟨b, 0, none⟩ x).setCell ⟨b, 1, none⟩ y).setCell ⟨b, 2, none⟩ z
theorem IsU32s.set3 {w : World} {a : Option Addr} {n g : Nat} {ds : List Nat} (h : IsU32s w a n ds) (hne : ∀ b f, a = some ⟨b, f, none⟩ → b ≠ g) (x y z : Value) : IsU32s (set3 w g x y z) a n ds :=
  ((h.grown (grownBy_setCell w ⟨g, 0, none⟩ x) hne).grown (grownBy_setCell _ ⟨g, 1, none⟩ y) hne).grown (grownBy_setCell _ ⟨g, 2, none⟩ z) hne
theorem below_set3 {B g : Nat} {w0 w : World} (h : Below B w0 w) (hg : B ≤ g) (x y z : Value) : Below B w0 (set3 w g x y z) :=
  ((h.setCell (p := ⟨g, 0, none⟩) hg x).setCell (p := ⟨g, 1, none⟩) hg y).setCell (p := ⟨g, 2, none⟩) hg z
/-- Every cell that holds a number holds it still. -/
def Ints (w w' : World) : Prop := ∀ b o k z, w.cell? ⟨b, o, none⟩ = some (.int k z) → w'.cell? ⟨b, o, none⟩ = some (.int k z)
theorem Ints.refl (w : World) : Ints w w := fun _ _ _ _ h => h
theorem Ints.trans {a b c : World} (h : Ints a b) (k : Ints b c) : Ints a c := fun _ _ _ _ e => k _ _ _ _ (h _ _ _ _ e)
theorem Ints.below {w w' : World} (h : Below w.heap.size w w') : Ints w w' := fun b o k z e => (h.cell (p := ⟨b, o, none⟩) (World.block_lt_of_cell? w _ e)).trans e
theorem Ints.set {w : World} {p : Addr} {v : Value} (h : ∀ k z, w.cell? p ≠ some (.int k z)) : Ints w (w.setCell p v) := fun b o k z e => by
  by_cases hp : p = ⟨b, o, none⟩
  · subst hp; exact absurd e (h k z)
  · rw [World.cell?_setCell_other _ _ _ _ hp]; exact e
theorem IsU32s.ints {w w' : World} {a : Option Addr} {n : Nat} {ds : List Nat} (h : IsU32s w a n ds) (hI : Ints w w') : IsU32s w' a n ds := ⟨h.1, fun j hj => by
  obtain ⟨b, f, e, hc⟩ := h.2 j hj
  exact ⟨b, f, e, hI _ _ _ _ hc⟩⟩
theorem ints_set3 {w : World} {b : Nat} (x y z : Value) (h0 : ∀ k n, w.cell? ⟨b, 0, none⟩ ≠ some (.int k n)) (h1 : ∀ k n, w.cell? ⟨b, 1, none⟩ ≠ some (.int k n)) (h2 : ∀ k n, w.cell? ⟨b, 2, none⟩ ≠ some (.int k n)) : Ints w (set3 w b x y z) := by
  unfold Proofs.YtaneocedklnajaaGreat.set3
  refine (Ints.set h0).trans ((Ints.set fun k n => ?_).trans (Ints.set fun k n => ?_))
  · rw [World.cell?_setCell_other _ _ _ _ (by simp)]; exact h1 k n
  · rw [World.cell?_setCell_other _ _ _ _ (by simp), World.cell?_setCell_other _ _ _ _ (by simp)]; exact h2 k n
set_option maxRecDepth 20000 in
set_option maxHeartbeats 1600000 in
theorem ratioOf_any (p : Int) (q : Nat) (w : World) (h0 : -9223372036854775807 ≤ p) (h1 : p ≤ 9223372036854775807) (h2 : q < 9223372036854775808) :
    Calls Tryz.prog 34 #[.agg #[.int .i64 p, .int .i64 (q : Nat)]] w (RetRaw w (decide (p < 0)) p.natAbs q) := by
  obtain ⟨P, hP⟩ : ∃ P, p.natAbs = P := ⟨_, rfl⟩
  have hP63 : P < 9223372036854775808 := by omega
  obtain ⟨neg, hneg⟩ : ∃ neg, decide (p < 0) = neg := ⟨_, rfl⟩
  rw [hP, hneg]
  have HS := Lib.hid (fun (w : World) => size_any p w h0 h1)
  rw [hP] at HS
  clear hP
  go_enter Tryz.func34, Tryz.ntmps34
  go_wp2_with fail
  go_region_held3 (fun w' => w'.cell? ⟨w.heap.size, 0, none⟩ = some (.int .i64 p) ∧ w'.cell? ⟨w.heap.size, 1, none⟩ = some (.int .i64 (q : Nat)) ∧
      w'.cell? ⟨w.heap.size + 1, 0, none⟩ = some (oldVal w' ⟨w.heap.size + 1, 0, none⟩) ∧ w'.cell? ⟨w.heap.size + 1, 1, none⟩ = some (oldVal w' ⟨w.heap.size + 1, 1, none⟩) ∧ w'.cell? ⟨w.heap.size + 1, 2, none⟩ = some (oldVal w' ⟨w.heap.size + 1, 2, none⟩) ∧
      w'.frozen? ⟨w.heap.size + 1, 0, none⟩ = false ∧ w'.frozen? ⟨w.heap.size + 1, 1, none⟩ = false ∧ w'.frozen? ⟨w.heap.size + 1, 2, none⟩ = false ∧ w.heap.size < w'.heap.size ∧ w.heap.size + 1 < w'.heap.size)
    ((repeat' refine And.intro ?_ ?_) <;> first | (go_keep; done) | (refine oldVal_of ?_; (repeat refine some_set ?_); go_keep; done) | (go_keep; omega))
    (first
      | (go_at_call 79; refine (HS.out _).mono ?_; rintro e w' ⟨rfl, rfl⟩)
      | (go_at_call_of 78 (Value.int IntKind.i64 (P : Nat)); refine (naturalOf_kept P w.heap.size (w.heap.size + 1) _ (by omega) ?_ ?_).mono ?_; (first | omega | (simp [*]; done) | (simp [*]; omega)); (first | omega | (simp [*]; done) | (simp [*]; omega)); rintro e w' ⟨a1, k1, rfl, hx1, q0, q1, q2, q3, q4⟩)
      | (go_at_call_of 78 (Value.int IntKind.i64 (q : Nat)); refine (naturalOf_kept q w.heap.size (w.heap.size + 1) _ (by omega) ?_ ?_).mono ?_; (first | omega | (simp [*]; done) | (simp [*]; omega)); (first | omega | (simp [*]; done) | (simp [*]; omega)); rintro e w' ⟨a2, k2, rfl, hx2, r0, r1, r2, r3, r4⟩))
  go_wp2_with fail
  rename_i hHeld
  clear hHeld
  have hA := hx1.out
  have hB := hx2.out
  have hbw : Below w.heap.size w w' := by
    have h1 : Below w.heap.size w (((w.alloc (Obj.cells #[Value.int IntKind.i64 p, Value.int IntKind.i64 (q : Nat)] 40)).alloc (Obj.cells #[Value.bool false, Value.slice none 0 0, Value.slice none 0 0] 66)).drew) := (((Below.refl _ w).alloc (Nat.le_refl _) _).alloc (by simp only [alloc_size]; omega) _).drew
    exact (h1.trans (hA.2.1.mono h1.size)).trans (hB.2.1.mono (Nat.le_trans h1.size hA.2.1.size))
  refine bodyPost_ret (v := .agg #[.bool neg, .slice a1 (digs P).length k1, .slice a2 (digs q).length k2]) (by simp [results, Tryz.results34, go_sem, *]) rfl ⟨a1, k1, a2, k2, rfl, ?_, ?_, ?_⟩
  · exact (hA.1.below hB.2.1).set3 hA.2.2 _ _ _
  · exact hB.1.set3 hB.2.2 _ _ _
  · exact below_set3 hbw (by omega) _ _ _
set_option maxRecDepth 20000 in
set_option maxHeartbeats 800000 in
theorem whole_any (p : Int) (w : World) (h0 : -9223372036854775807 ≤ p) (h1 : p ≤ 9223372036854775807) :
    Calls Tryz.prog 32 #[.int .i64 p] w (RetRaw w (decide (p < 0)) p.natAbs 1) := by
  have HC := Lib.hid (fun w' => ratioOf_any p 1 w' h0 h1 (by omega))
  obtain ⟨neg, hneg⟩ : ∃ neg, decide (p < 0) = neg := ⟨_, rfl⟩
  obtain ⟨P, hP⟩ : ∃ P, p.natAbs = P := ⟨_, rfl⟩
  rw [hneg, hP] at HC ⊢
  clear hneg hP
  go_enter Tryz.func32, Tryz.ntmps32
  go_wp2_with fail
  refine (HC.out _).mono ?_
  rintro e w1 ⟨a1, k1, a2, k2, rfl, hx1, hx2, hb⟩
  have q0 := (bcell hb).1 w.heap.size 0 (by simp)
  have q1 := (bcell hb).1 w.heap.size 1 (by simp)
  have q2 := (bcell hb).1 w.heap.size 2 (by simp)
  have f0 := (bcell hb).2 w.heap.size 0 (by simp)
  have f1 := (bcell hb).2 w.heap.size 1 (by simp)
  have f2 := (bcell hb).2 w.heap.size 2 (by simp)
  have H := Lib.hid (And.intro hx1 (And.intro hx2 hb))
  clear hx1 hx2 hb
  go_wp2_with fail
  obtain ⟨hx1, hx2, hb⟩ := H.out
  have hI : Ints w1 (set3 w1 w.heap.size (.bool neg) (.slice a1 (digs P).length k1) (.slice a2 (digs 1).length k2)) := ints_set3 _ _ _ (by rw [q0]; simp) (by rw [q1]; simp) (by rw [q2]; simp)
  refine bodyPost_ret (v := .agg #[.bool neg, .slice a1 (digs P).length k1, .slice a2 (digs 1).length k2]) (by simp [results, Tryz.results32, go_sem, *]) rfl ⟨a1, k1, a2, k2, rfl, hx1.ints hI, hx2.ints hI, ?_⟩
  exact below_set3 (bthen ((Below.refl _ w).alloc (Nat.le_refl _) _) hb) (Nat.le_refl _) _ _ _
/-- A call's answer: a ratio. -/
def RetRat (w : World) (r : Rat) (e : Ending) (w' : World) : Prop := RetRaw w (decide (r.num < 0)) r.num.natAbs r.den e w'
theorem retRat_mk {w w' : World} {neg : Bool} {n d : Nat} {e : Ending} (hn : n ≠ 0) (hd : d ≠ 0) (h : RetRaw w neg (n / Nat.gcd n d) (d / Nat.gcd n d) e w') : RetRat w (mkRat (sgn neg n) d) e w' := by
  unfold RetRat
  rw [mk_neg hd, sgn_neg neg n hn, mk_abs hd, mk_den hd, sgn_abs]
  exact h
set_option maxRecDepth 20000 in
set_option maxHeartbeats 1600000 in
theorem lowest_zero (neg : Bool) (a1 a2 : Option Addr) (c1 c2 l2 : Nat) (w : World) :
    Calls Tryz.prog 77 #[.agg #[.bool neg, .slice a1 0 c1, .slice a2 l2 c2]] w (RetRaw w false 0 1) := by
  have HC := Lib.hid (fun w' => whole_any 0 w' (by omega) (by omega))
  go_enter Tryz.func77, Tryz.ntmps77
  go_wp2_with fail
  refine (HC.out _).mono ?_
  rintro e w1 ⟨b1, k1, b2, k2, rfl, hx1, hx2, hb⟩
  have q0 := (bcell hb).1 (w.heap.size + 1) 0 (by simp)
  have q1 := (bcell hb).1 (w.heap.size + 1) 1 (by simp)
  have q2 := (bcell hb).1 (w.heap.size + 1) 2 (by simp)
  have f0 := (bcell hb).2 (w.heap.size + 1) 0 (by simp)
  have f1 := (bcell hb).2 (w.heap.size + 1) 1 (by simp)
  have f2 := (bcell hb).2 (w.heap.size + 1) 2 (by simp)
  have H := Lib.hid (And.intro hx1 (And.intro hx2 hb))
  clear hx1 hx2 hb
  go_wp2_with fail
  obtain ⟨hx1, hx2, hb⟩ := H.out
  have hI : Ints w1 (set3 w1 (w.heap.size + 1) (.bool false) (.slice b1 (digs 0).length k1) (.slice b2 (digs 1).length k2)) := ints_set3 _ _ _ (by rw [q0]; simp) (by rw [q1]; simp) (by rw [q2]; simp)
  refine bodyPost_ret (v := .agg #[.bool false, .slice b1 (digs 0).length k1, .slice b2 (digs 1).length k2]) (by simp [results, Tryz.results77, go_sem, *]) rfl ⟨b1, k1, b2, k2, rfl, hx1.ints hI, hx2.ints hI, ?_⟩
  exact below_set3 (bthen (((Below.refl _ w).alloc (Nat.le_refl _) _).alloc (by simp) _) hb) (by omega) _ _ _
set_option maxRecDepth 20000 in
set_option maxHeartbeats 3200000 in
theorem lowest_pos (neg : Bool) (a1 a2 : Option Addr) (c1 c2 n d : Nat) (w : World) (hx1 : IsU32s w a1 (digs n).length (digs n)) (hx2 : IsU32s w a2 (digs d).length (digs d)) (hb1 : (digs n).length < 536870912) (hb2 : (digs d).length < 536870912) (hn : 0 < n) (hd : 0 < d) :
    Calls Tryz.prog 77 #[.agg #[.bool neg, .slice a1 (digs n).length c1, .slice a2 (digs d).length c2]] w (RetRaw w neg (n / Nat.gcd n d) (d / Nat.gcd n d)) := by
  obtain ⟨G, hG⟩ : ∃ G, Nat.gcd n d = G := ⟨_, rfl⟩
  have hGp : 0 < G := by rw [← hG]; exact Nat.gcd_pos_of_pos_left _ hn
  have hGl : (digs G).length < 536870912 := Nat.lt_of_le_of_lt (digs_len_mono (by rw [← hG]; exact Nat.gcd_le_left _ hn)) hb1
  have hl1 := digs_len_pos hn
  have HX := Lib.hid (And.intro hx1 (And.intro hx2 (And.intro hGp (And.intro hGl hG))))
  have HB := Lib.hid (And.intro hb1 hb2)
  rw [hG]
  have hne : (((digs n).length : Int) == 0) = false := by rw [beq_eq_false_iff_ne]; omega
  obtain ⟨m1, hm1⟩ : ∃ m, (digs n).length = m := ⟨_, rfl⟩
  obtain ⟨m2, hm2⟩ : ∃ m, (digs d).length = m := ⟨_, rfl⟩
  rw [hm1] at hne ⊢
  rw [hm2]
  have HM := Lib.hid (And.intro hm1 hm2)
  clear hx1 hx2 hG hGp hGl hb1 hb2 hl1 hm1 hm2
  have hA : Below w.heap.size w ((w.alloc (.cells #[.bool neg, .slice a1 m1 c1, .slice a2 m2 c2] 66)).alloc (.cells #[.bool false, .slice none 0 0, .slice none 0 0] 66)) := ((Below.refl _ w).alloc (Nat.le_refl _) _).alloc (by simp) _
  have HA := Lib.hid hA
  clear hA
  go_enter Tryz.func77, Tryz.ntmps77
  go_wp2_with fail
  have hsh := natShared_any a1 a2 c1 c2 n d _ (HX.out.1.below HA.out) (HX.out.2.1.below HA.out) HB.out.1 HB.out.2
  rw [HM.out.1, HM.out.2, HX.out.2.2.2.2] at hsh
  refine hsh.mono ?_
  clear hsh
  rintro e w1 ⟨b1, k1, rfl, hg1, hbb⟩
  have q0 := (bcell hbb).1 w.heap.size 0 (by simp only [alloc_size]; omega)
  have q1 := (bcell hbb).1 w.heap.size 1 (by simp only [alloc_size]; omega)
  have q2 := (bcell hbb).1 w.heap.size 2 (by simp only [alloc_size]; omega)
  have r0 := (bcell hbb).1 (w.heap.size + 1) 0 (by simp only [alloc_size]; omega)
  have r1 := (bcell hbb).1 (w.heap.size + 1) 1 (by simp only [alloc_size]; omega)
  have r2 := (bcell hbb).1 (w.heap.size + 1) 2 (by simp only [alloc_size]; omega)
  have f1 := (bcell hbb).2 w.heap.size 1 (by simp only [alloc_size]; omega)
  have f2 := (bcell hbb).2 w.heap.size 2 (by simp only [alloc_size]; omega)
  have g0 := (bcell hbb).2 (w.heap.size + 1) 0 (by simp only [alloc_size]; omega)
  have g1 := (bcell hbb).2 (w.heap.size + 1) 1 (by simp only [alloc_size]; omega)
  have g2 := (bcell hbb).2 (w.heap.size + 1) 2 (by simp only [alloc_size]; omega)
  simp at q0 q1 q2 r0 r1 r2 f1 f2 g0 g1 g2
  have H1 := Lib.hid (And.intro hg1 (And.intro (bthen HA.out hbb) hbb.size))
  obtain ⟨m3, hm3⟩ : ∃ m, (digs G).length = m := ⟨_, rfl⟩
  rw [hm3]
  have HM3 := Lib.hid hm3
  clear hg1 hbb hm3
  have hz1 : w.heap.size + 1 < w1.heap.size := by have := H1.out.2.2; simp only [alloc_size] at this; omega
  have ho1 := natOver_any a1 b1 c1 k1 n G w1 (HX.out.1.below H1.out.2.1) H1.out.1 HB.out.1 HX.out.2.2.2.1 HX.out.2.2.1
  rw [HM.out.1, HM3.out] at ho1
  have HO1 := Lib.hid ho1
  clear ho1
  go_wp2_with fail
  refine HO1.out.mono ?_
  rintro e w2 ⟨b2, k2, b3, k3, rfl, hx3, _, hb2⟩
  have q0' := ((bcell hb2).1 w.heap.size 0 (by omega)).trans q0
  have q1' := ((bcell hb2).1 w.heap.size 1 (by omega)).trans q1
  have q2' := ((bcell hb2).1 w.heap.size 2 (by omega)).trans q2
  have r0' := ((bcell hb2).1 (w.heap.size + 1) 0 hz1).trans r0
  have r1' := ((bcell hb2).1 (w.heap.size + 1) 1 hz1).trans r1
  have r2' := ((bcell hb2).1 (w.heap.size + 1) 2 hz1).trans r2
  have f1' := ((bcell hb2).2 w.heap.size 1 (by omega)).trans f1
  have f2' := ((bcell hb2).2 w.heap.size 2 (by omega)).trans f2
  have g0' := ((bcell hb2).2 (w.heap.size + 1) 0 hz1).trans g0
  have g1' := ((bcell hb2).2 (w.heap.size + 1) 1 hz1).trans g1
  have g2' := ((bcell hb2).2 (w.heap.size + 1) 2 hz1).trans g2
  have hz2 : w.heap.size + 1 < w2.heap.size := Nat.lt_of_lt_of_le hz1 hb2.size
  obtain ⟨m4, hm4⟩ : ∃ m, (digs (n / G)).length = m := ⟨_, rfl⟩
  obtain ⟨m5, hm5⟩ : ∃ m, (digs (n % G)).length = m := ⟨_, rfl⟩
  rw [hm4, hm5]
  have hI2 : Ints w2 (w2.setCell ⟨w.heap.size, 1, none⟩ (.slice b2 m4 k2)) := Ints.set (by rw [q1']; simp)
  have hB3 : Below w.heap.size w (w2.setCell ⟨w.heap.size, 1, none⟩ (.slice b2 m4 k2)) := (H1.out.2.1.trans (hb2.mono H1.out.2.1.size)).setCell (p := ⟨w.heap.size, 1, none⟩) (Nat.le_refl _) _
  have H2 := Lib.hid (And.intro (hx3.ints hI2) (And.intro (((HX.out.2.1.below H1.out.2.1).below hb2).ints hI2) (And.intro ((H1.out.1.below hb2).ints hI2) (And.intro hB3 hm4))))
  clear hx3 hb2 q0 q1 q2 r0 r1 r2 f1 f2 g0 g1 g2 hI2 hB3 hm4 hm5 hz1
  go_wp2_with fail
  have ho2 := natOver_any a2 b1 c2 k1 d G _ H2.out.2.1 H2.out.2.2.1 HB.out.2 HX.out.2.2.2.1 HX.out.2.2.1
  rw [HM.out.2, HM3.out] at ho2
  refine ho2.mono ?_
  clear ho2
  rintro e w3 ⟨b4, k4, b5, k5, rfl, hx4, _, hb3⟩
  have hz3 : w.heap.size + 1 < (w2.setCell ⟨w.heap.size, 1, none⟩ (.slice b2 m4 k2)).heap.size := by simpa [World.setCell] using hz2
  have s0 := (bcell hb3).1 w.heap.size 0 (by omega)
  have s1 := (bcell hb3).1 w.heap.size 1 (by omega)
  have s2 := (bcell hb3).1 w.heap.size 2 (by omega)
  have t0 := (bcell hb3).1 (w.heap.size + 1) 0 hz3
  have t1 := (bcell hb3).1 (w.heap.size + 1) 1 hz3
  have t2 := (bcell hb3).1 (w.heap.size + 1) 2 hz3
  have e2 := (bcell hb3).2 w.heap.size 2 (by omega)
  have d0 := (bcell hb3).2 (w.heap.size + 1) 0 hz3
  have d1 := (bcell hb3).2 (w.heap.size + 1) 1 hz3
  have d2 := (bcell hb3).2 (w.heap.size + 1) 2 hz3
  rw [World.cell?_setCell_other _ _ _ _ (by simp)] at s0 s2 t0 t1 t2
  rw [World.cell?_setCell_same _ _ _ q1'] at s1
  rw [World.frozen?_setCell] at e2 d0 d1 d2
  rw [q0'] at s0
  rw [q2'] at s2
  rw [r0'] at t0
  rw [r1'] at t1
  rw [r2'] at t2
  rw [f2'] at e2
  rw [g0'] at d0
  rw [g1'] at d1
  rw [g2'] at d2
  obtain ⟨m6, hm6⟩ : ∃ m, (digs (d / G)).length = m := ⟨_, rfl⟩
  obtain ⟨m7, hm7⟩ : ∃ m, (digs (d % G)).length = m := ⟨_, rfl⟩
  rw [hm6, hm7]
  have H3 := Lib.hid (And.intro (H2.out.1.below hb3) (And.intro hx4 (And.intro (bthen H2.out.2.2.2.1 hb3) hm6)))
  clear hx4 hb3 q0' q1' q2' r0' r1' r2' f1' f2' g0' g1' g2' hz2 hz3 hm6 hm7
  go_wp2_with fail
  have hI : Ints w3 (set3 (w3.setCell ⟨w.heap.size, 2, none⟩ (.slice b4 m6 k4)) (w.heap.size + 1) (.bool neg) (.slice b2 m4 k2) (.slice b4 m6 k4)) :=
    (Ints.set (by rw [s2]; simp)).trans (ints_set3 _ _ _ (by rw [World.cell?_setCell_other _ _ _ _ (by simp), t0]; simp) (by rw [World.cell?_setCell_other _ _ _ _ (by simp), t1]; simp) (by rw [World.cell?_setCell_other _ _ _ _ (by simp), t2]; simp))
  refine bodyPost_ret (v := .agg #[.bool neg, .slice b2 m4 k2, .slice b4 m6 k4]) (by simp [results, Tryz.results77, go_sem, *]) rfl ⟨b2, k2, b4, k4, by rw [H2.out.2.2.2.2, H3.out.2.2.2], H3.out.1.ints hI, H3.out.2.1.ints hI, ?_⟩
  exact below_set3 (H3.out.2.2.1.setCell (p := ⟨w.heap.size, 2, none⟩) (Nat.le_refl _) _) (by omega) _ _ _
theorem lowest_any (neg : Bool) (a1 a2 : Option Addr) (c1 c2 n d : Nat) (w : World) (hx1 : IsU32s w a1 (digs n).length (digs n)) (hx2 : IsU32s w a2 (digs d).length (digs d)) (hb1 : (digs n).length < 536870912) (hb2 : (digs d).length < 536870912) (hd : 0 < d) :
    Calls Tryz.prog 77 #[.agg #[.bool neg, .slice a1 (digs n).length c1, .slice a2 (digs d).length c2]] w (RetRat w (mkRat (sgn neg n) d)) := by
  by_cases h : n = 0
  · subst h
    have e : mkRat (sgn neg 0) d = 0 := by cases neg <;> simp [sgn]
    rw [e, show (digs 0).length = 0 by rw [digs_zero]; rfl]
    exact (lowest_zero neg a1 a2 c1 c2 _ w).mono fun e w' h => h
  · exact (lowest_pos neg a1 a2 c1 c2 n d w hx1 hx2 hb1 hb2 (Nat.pos_of_ne_zero h) hd).mono fun e w' hr => retRat_mk h (by omega) hr
end Go.Proofs.YtaneocedklnajaaGreat
/- Quotients as ratios, the fraction of a ratio, and the reference's fraction of two numbers. Conditions: numbers that an int64 holds, denominators greater than 0. -/
namespace Go.Proofs.YtaneocedklnajaaGreat
open Go.RowKit
set_option linter.unusedVariables false

theorem dl63 {n : Nat} (h : n < 18446744073709551616) : (digs n).length < 536870912 := by
  have : (digs n).length ≤ 2 := digs_len_le (by rw [bse_eq]; simpa using h)
  omega
/-- A ratio whose parts are small. -/
def fitR (r : Rat) : Bool := decide (r.num.natAbs ≤ 1000000000000000000) && decide (r.den ≤ 1000000000000000000)
def fracV (r : Rat) : Value := if fitR r then .tuple #[.agg #[.int .i64 r.num, .int .i64 (r.den : Nat)], .bool true] else .tuple #[.agg #[.int .i64 0, .int .i64 0], .bool false]
theorem fracV_yes {r : Rat} (h : fitR r = true) : fracV r = .tuple #[.agg #[.int .i64 r.num, .int .i64 (r.den : Nat)], .bool true] := by unfold fracV; rw [if_pos h]
theorem fracV_no {r : Rat} (h : fitR r = false) : fracV r = .tuple #[.agg #[.int .i64 0, .int .i64 0], .bool false] := by unfold fracV; rw [if_neg (by rw [h]; simp)]
set_option maxRecDepth 20000 in
set_option maxHeartbeats 1600000 in
theorem fraction_any (r : Rat) (a1 a2 : Option Addr) (c1 c2 : Nat) (w : World) (hx1 : IsU32s w a1 (digs r.num.natAbs).length (digs r.num.natAbs)) (hx2 : IsU32s w a2 (digs r.den).length (digs r.den)) (hb1 : (digs r.num.natAbs).length < 536870912) (hb2 : (digs r.den).length < 536870912) :
    Calls Tryz.prog 37 #[.agg #[.bool (decide (r.num < 0)), .slice a1 (digs r.num.natAbs).length c1, .slice a2 (digs r.den).length c2]] w fun e w' => e = .returned (fracV r) ∧ Below w.heap.size w w' := by
  have hs := sgn_self r.num
  obtain ⟨sg, hsg⟩ : ∃ sg, decide (r.num < 0) = sg := ⟨_, rfl⟩
  rw [hsg] at hs ⊢
  have hA : Below w.heap.size w ((w.alloc (.cells #[.bool sg, .slice a1 (digs r.num.natAbs).length c1, .slice a2 (digs r.den).length c2] 66)).alloc (.cells #[.int .i64 0, .int .i64 0] 40)) := ((Below.refl _ w).alloc (Nat.le_refl _) _).alloc (by simp) _
  have HA := Lib.hid hA
  have HC1 := Lib.hid (natSmall_any a1 c1 r.num.natAbs _ (hx1.below hA) (by omega))
  have HC2 := Lib.hid (natSmall_any a2 c2 r.den _ (hx2.below hA) (by omega))
  obtain ⟨P, hP⟩ : ∃ P, r.num.natAbs = P := ⟨_, rfl⟩
  obtain ⟨Q, hQ⟩ : ∃ Q, r.den = Q := ⟨_, rfl⟩
  have hf1 : fitR r = (decide (P ≤ 1000000000000000000) && decide (Q ≤ 1000000000000000000)) := by unfold fitR; rw [hP, hQ]
  rw [hP] at HC1 HC2 hs ⊢
  rw [hQ] at HC1 HC2 ⊢
  have HF := Lib.hid (And.intro hf1 (And.intro hs hQ))
  rw [hP, hQ] at hA HA
  clear hA hx1 hx2 hb1 hb2 hs hP hQ hf1 hsg
  go_enter Tryz.func37, Tryz.ntmps37
  go_wp2_with fail
  refine HC1.out.mono ?_
  rintro e w1 ⟨v1, hv1, rfl, rfl⟩
  go_wp2_with fail
  refine HC2.out.mono ?_
  rintro e w1 ⟨v2, hv2, rfl, rfl⟩
  by_cases hp : P ≤ 1000000000000000000
  · by_cases hq : Q ≤ 1000000000000000000
    · obtain rfl := hv1 hp
      obtain rfl := hv2 hq
      have e1 : decide (P ≤ 1000000000000000000) = true := decide_eq_true hp
      have e2 : decide (Q ≤ 1000000000000000000) = true := decide_eq_true hq
      have hfit : fitR r = true := by rw [HF.out.1, e1, e2]; rfl
      have HFit := Lib.hid hfit
      rw [e1, e2]
      clear hv1 hv2 hfit
      cases sg with
      | true =>
        go_wp2_with fail
        refine bodyPost_ret (v := .tuple #[.agg #[.int .i64 (-(P : Int)), .int .i64 (Q : Nat)], .bool true]) (by simp [results, Tryz.results37, go_sem, *]) rfl ⟨?_, ?_⟩
        · rw [fracV_yes HFit.out, HF.out.2.2, ← HF.out.2.1]; rfl
        · exact ((Below.refl _ w).alloc (Nat.le_refl _) _).alloc (by simp) _
      | false =>
        go_wp2_with fail
        refine bodyPost_ret (v := .tuple #[.agg #[.int .i64 (P : Int), .int .i64 (Q : Nat)], .bool true]) (by simp [results, Tryz.results37, go_sem, *]) rfl ⟨?_, ?_⟩
        · rw [fracV_yes HFit.out, HF.out.2.2, ← HF.out.2.1]; rfl
        · exact ((Below.refl _ w).alloc (Nat.le_refl _) _).alloc (by simp) _
    · have e1 : decide (P ≤ 1000000000000000000) = true := decide_eq_true hp
      have e2 : decide (Q ≤ 1000000000000000000) = false := decide_eq_false hq
      have hfit : fitR r = false := by rw [HF.out.1, e1, e2]; rfl
      have HFit := Lib.hid hfit
      rw [e1, e2]
      clear hv1 hv2 hfit
      go_wp2_with fail
      refine bodyPost_ret (v := .tuple #[.agg #[.int .i64 0, .int .i64 0], .bool false]) (by simp [results, Tryz.results37, go_sem, *]) rfl ⟨?_, ?_⟩
      · rw [fracV_no HFit.out]
      · exact ((Below.refl _ w).alloc (Nat.le_refl _) _).alloc (by simp) _
  · have e1 : decide (P ≤ 1000000000000000000) = false := decide_eq_false hp
    have hfit : fitR r = false := by rw [HF.out.1, e1]; rfl
    have HFit := Lib.hid hfit
    rw [e1]
    clear hv1 hv2 hfit
    go_wp2_with fail
    refine bodyPost_ret (v := .tuple #[.agg #[.int .i64 0, .int .i64 0], .bool false]) (by simp [results, Tryz.results37, go_sem, *]) rfl ⟨?_, ?_⟩
    · rw [fracV_no HFit.out]
    · exact ((Below.refl _ w).alloc (Nat.le_refl _) _).alloc (by simp) _
set_option maxHeartbeats 800000 in
theorem l01Gcd_any (a b : Nat) (w : World) (ha : a < 9223372036854775808) (hb : b < 9223372036854775808) :
    Calls Tryz.prog 124 #[.int .i64 (a : Nat), .int .i64 (b : Nat)] w fun e w' => e = .returned (.int .i64 (Nat.gcd a b : Nat)) ∧ w = w' := by
  obtain ⟨G, hG⟩ : ∃ G, Nat.gcd a b = G := ⟨_, rfl⟩
  rw [hG]
  have HG := Lib.hid hG
  clear hG
  go_enter Tryz.func124, Tryz.ntmps124
  go_wp2
  go_loop [0, 1] (fun v0 v1 => ∃ x y : Nat, v0 = .int .i64 (x : Nat) ∧ v1 = .int .i64 (y : Nat) ∧ x < 9223372036854775808 ∧ y < 9223372036854775808 ∧ Hid (Nat.gcd x y = G)) (fun _ v1 => (intOf v1).toNat)
  case atStart => exact ⟨a, b, rfl, rfl, ha, hb, HG⟩
  case round =>
    obtain ⟨x, y, rfl, rfl, hx, hy, HR⟩ := hrel
    by_cases h0 : 0 < y
    · have h1 : (0 : Int) < (y : Int) := by omega
      have hr : (x : Int) % (y : Int) = ((x % y : Nat) : Int) := by rw [Int.natCast_emod]
      have hlt := Nat.mod_lt x h0
      obtain ⟨r, hr'⟩ : ∃ r, x % y = r := ⟨_, rfl⟩
      rw [hr'] at hr hlt
      have HN := Lib.hid (show Nat.gcd y r = G by rw [← HR.out, ← hr', Nat.gcd_comm y, ← Nat.gcd_rec, Nat.gcd_comm])
      clear hr'
      go_wp2
      go_round
      case rel => exact ⟨y, r, rfl, by first | rfl | rw [hr], hy, by omega, HN⟩
      case measure => simp [intOf]; omega
    · obtain rfl : y = 0 := by omega
      have HX := Lib.hid (show x = G by rw [← HR.out, Nat.gcd_zero_right])
      go_wp2
      go_ret
      exact ⟨by rw [← HX.out]; rfl, rfl⟩
theorem l00Max_abs (a : Int) (w : World) (h0 : -9223372036854775807 ≤ a) (h1 : a ≤ 9223372036854775807) : Calls Tryz.prog 69 #[.int .i64 a, .int .i64 (-a)] w fun e w' => e = .returned (.int .i64 (a.natAbs : Nat)) ∧ w = w' := by
  by_cases h : -a < a
  · have e : (a.natAbs : Int) = a := by omega
    rw [e]
    go_enter Tryz.func69, Tryz.ntmps69
    go_wp2
    go_ret
    exact ⟨rfl, rfl⟩
  · have e : (a.natAbs : Int) = -a := by omega
    rw [e]
    go_enter Tryz.func69, Tryz.ntmps69
    go_wp2
    go_ret
    exact ⟨rfl, rfl⟩
set_option maxHeartbeats 1600000 in
theorem l01FMake_any (p : Int) (q : Nat) (w : World) (h0 : -9223372036854775807 ≤ p) (h1 : p ≤ 9223372036854775807) (h2 : q < 9223372036854775808) (h3 : 0 < q) :
    Calls Tryz.prog 87 #[.int .i64 p, .int .i64 (q : Nat)] w fun e w' => e = .returned (.agg #[.int .i64 (mkRat p q).num, .int .i64 ((mkRat p q).den : Nat)]) ∧ Below w.heap.size w w' := by
  have hn := mk_num (n := p) (Nat.ne_of_gt h3)
  have hd := mk_den (n := p) (Nat.ne_of_gt h3)
  have hgp := Nat.gcd_pos_of_pos_right p.natAbs h3
  have hgl : Nat.gcd p.natAbs q ≤ q := Nat.gcd_le_right _ h3
  have HM := Lib.hid (fun (w : World) => l00Max_abs p w h0 h1)
  have HG := Lib.hid (fun (w : World) => l01Gcd_any p.natAbs q w (by omega) h2)
  have hdv : ((p.natAbs.gcd q : Nat) : Int) ∣ p := Int.ofNat_dvd_left.2 (Nat.gcd_dvd_left _ _)
  have htd := Int.tdiv_eq_ediv_of_dvd hdv
  obtain ⟨G, hG⟩ : ∃ G, Nat.gcd p.natAbs q = G := ⟨_, rfl⟩
  rw [hG] at hn hd hgp hgl HG htd
  have hdc : (q : Int) / (G : Int) = ((q / G : Nat) : Int) := by rw [Int.natCast_ediv]
  obtain ⟨X, hX⟩ : ∃ X, p / (G : Int) = X := ⟨_, rfl⟩
  obtain ⟨Y, hY⟩ : ∃ Y, q / G = Y := ⟨_, rfl⟩
  rw [hX] at hn htd
  rw [hY] at hd hdc
  have hXb : X.natAbs ≤ p.natAbs := by
    rw [← hX, Int.natAbs_ediv_of_dvd (by rw [← hG]; exact hdv)]
    exact Nat.div_le_self _ _
  have hYb : Y ≤ q := by rw [← hY]; exact Nat.div_le_self _ _
  have HN := Lib.hid (And.intro hn hd)
  have hg0 : ((G : Int) == 0) = false := by rw [beq_eq_false_iff_ne]; omega
  have hg1 : (0 : Int) < (G : Int) := by omega
  have hq1 : ¬ (q : Int) < 0 := by omega
  have hxw : IntKind.i64.wrap X = X := IntWalk.i64_in _ (by omega)
  have hyw : IntKind.i64.wrap (Y : Int) = (Y : Int) := IntWalk.i64_in _ (by omega)
  have hqt : (q : Int).tdiv (G : Int) = (Y : Int) := by rw [Int.tdiv_eq_ediv_of_nonneg (by omega), hdc]
  clear hn hd hdv hG hX hY hgp hgl
  go_enter Tryz.func87, Tryz.ntmps87
  go_wp2_with fail
  refine (HM.out _).mono ?_
  rintro e w1 ⟨rfl, rfl⟩
  go_wp2_with fail
  refine (HG.out _).mono ?_
  rintro e w1 ⟨rfl, rfl⟩
  go_wp2_with fail
  go_region
  all_goals (try go_wp2_with fail)
  refine bodyPost_ret (v := .agg #[.int .i64 X, .int .i64 (Y : Nat)]) (by simp [results, Tryz.results87, go_sem]) rfl ⟨by rw [HN.out.1, HN.out.2], ((Below.refl _ w).alloc (Nat.le_refl _) _).drew⟩
end Go.Proofs.YtaneocedklnajaaGreat

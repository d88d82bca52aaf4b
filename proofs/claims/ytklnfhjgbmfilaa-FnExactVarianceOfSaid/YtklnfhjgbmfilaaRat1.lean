import Derived.Test.YtklnfhjgbmfilaaNat6
import Derived.Test.YtklnfhjgbmfilaaRatSpec
import Derived.Deep.RegionHeld3
import Derived.Deep.RegionWith
import Derived.Deep.MidRow
/- Ratios in memory: a fraction as a ratio, lowest terms, quotients, and the fraction of a ratio. Conditions: the digits' lengths stay below 2 to the power of 29. -/
namespace Go.Proofs.Ytklnfhjgbmfilaa
open Go.RowKit
set_option linter.unusedVariables false

theorem bcell {W w1 : World} (hb : Below W.heap.size W w1) : (∀ b o, b < W.heap.size → w1.cell? ⟨b, o, none⟩ = W.cell? ⟨b, o, none⟩) ∧ (∀ b o, b < W.heap.size → w1.frozen? ⟨b, o, none⟩ = W.frozen? ⟨b, o, none⟩) :=
  ⟨fun b o h => hb.cell (p := ⟨b, o, none⟩) h, fun b o h => hb.frozen (p := ⟨b, o, none⟩) h⟩
/-- A call's answer: a sign and two numbers. -/
def RetRaw (w : World) (neg : Bool) (n d : Nat) (e : Ending) (w' : World) : Prop := ∃ a1 c1 a2 c2, e = .returned (.agg #[.bool neg, .slice a1 (digs n).length c1, .slice a2 (digs d).length c2]) ∧ IsU32s w' a1 (digs n).length (digs n) ∧ IsU32s w' a2 (digs d).length (digs d) ∧ Below w.heap.size w w'

theorem size_any (n : Int) (w : World) (h0 : -9223372036854775807 ≤ n) (h1 : n ≤ 9223372036854775807) :
    Calls Try.prog 96 #[.int .i64 n] w fun e w' => e = .returned (.int .i64 (n.natAbs : Nat)) ∧ w = w' := by
  have hm : max n (-n) = (n.natAbs : Nat) := by omega
  go_enter Try.func96, Try.ntmps96
  go_wp2
  go_ret
  exact ⟨rfl, rfl⟩
/-- What a cell holds, whatever it is. -/
def oldVal (w : World) (a : Addr) : Value := (w.cell? a).getD undef
theorem oldVal_of {w : World} {a : Addr} (h : (w.cell? a).isSome = true) : w.cell? a = some (oldVal w a) := by
  unfold oldVal
  cases hc : w.cell? a with
  | none => rw [hc] at h; cases h
  | some v => rfl
theorem some_set {w : World} {b o : Nat} {v : Value} {x : Addr} (h : (w.cell? x).isSome = true) : ((w.setCell ⟨b, o, none⟩ v).cell? x).isSome = true := World.isSome_setCells b [v] o w x h
theorem naturalOf_kept (n b1 b2 : Nat) (w : World) (hn : n < 9223372036854775808) (h1 : b1 < w.heap.size) (h2 : b2 < w.heap.size) :
    Calls Try.prog 95 #[.int .i64 (n : Nat)] w fun e w' => ∃ a cap, e = .returned (.slice a (digs n).length cap) ∧ Hid (IsU32s w' a (digs n).length (digs n) ∧ Below w.heap.size w w' ∧ (∀ b f, a = some ⟨b, f, none⟩ → b ≠ b2)) ∧
      (∀ o, w'.cell? ⟨b1, o, none⟩ = w.cell? ⟨b1, o, none⟩) ∧ (∀ o, w'.cell? ⟨b2, o, none⟩ = w.cell? ⟨b2, o, none⟩) ∧ (∀ o, w'.frozen? ⟨b2, o, none⟩ = w.frozen? ⟨b2, o, none⟩) ∧ b1 < w'.heap.size ∧ b2 < w'.heap.size :=
  (naturalOf_F n w hn).mono fun e w' ⟨a, cap, e1, e2, e3, e4, e5⟩ => ⟨a, cap, e1, Lib.hid ⟨e3, e4, fun b f h => by have := e5 b f h; omega⟩, fun o => e4.cell (p := ⟨b1, o, none⟩) h1, fun o => e4.cell (p := ⟨b2, o, none⟩) h2, fun o => e4.frozen (p := ⟨b2, o, none⟩) h2, Nat.lt_of_lt_of_le h1 e4.size, Nat.lt_of_lt_of_le h2 e4.size⟩
/-- Three cells of a block are written. -/
def set3 (w : World) (b : Nat) (x y z : Value) : World := ((w.setCell ⟨b, 0, none⟩ x).setCell ⟨b, 1, none⟩ y).setCell ⟨b, 2, none⟩ z
theorem IsU32s.set3 {w : World} {a : Option Addr} {n g : Nat} {ds : List Nat} (h : IsU32s w a n ds) (hne : ∀ b f, a = some ⟨b, f, none⟩ → b ≠ g) (x y z : Value) : IsU32s (set3 w g x y z) a n ds :=
  ((h.grown (grownBy_setCell w ⟨g, 0, none⟩ x) hne).grown (grownBy_setCell _ ⟨g, 1, none⟩ y) hne).grown (grownBy_setCell _ ⟨g, 2, none⟩ z) hne
theorem below_set3 {B g : Nat} {w0 w : World} (h : Below B w0 w) (hg : B ≤ g) (x y z : Value) : Below B w0 (set3 w g x y z) :=
  ((h.setCell (p := ⟨g, 0, none⟩) hg x).setCell (p := ⟨g, 1, none⟩) hg y).setCell (p := ⟨g, 2, none⟩) hg z
/-- Every cell that holds a number holds it still. -/
def Ints (w w' : World) : Prop := ∀ b o k z, w.cell? ⟨b, o, none⟩ = some (.int k z) → w'.cell? ⟨b, o, none⟩ = some (.int k z)
theorem Ints.refl (w : World) : Ints w w := fun _ _ _ _ h => h
theorem Ints.trans {a b c : World} (h : Ints a b) (k : Ints b c) : Ints a c := fun _ _ _ _ e => k _ _ _ _ (h _ _ _ _ e)
theorem Ints.below {w w' : World} (h : Below w.heap.size w w') : Ints w w' := fun b o k z e => (h.cell (p := ⟨b, o, none⟩) (World.block_lt_of_cell? w _ e)).trans e
theorem Ints.set {w : World} {p : Addr} {v : Value} (h : ∀ k z, w.cell? p ≠ some (.int k z)) : Ints w (w.setCell p v) := fun b o k z e => by
  by_cases hp : p = ⟨b, o, none⟩
  · subst hp; exact absurd e (h k z)
  · rw [World.cell?_setCell_other _ _ _ _ hp]; exact e
theorem IsU32s.ints {w w' : World} {a : Option Addr} {n : Nat} {ds : List Nat} (h : IsU32s w a n ds) (hI : Ints w w') : IsU32s w' a n ds := ⟨h.1, fun j hj => by
  obtain ⟨b, f, e, hc⟩ := h.2 j hj
  exact ⟨b, f, e, hI _ _ _ _ hc⟩⟩
theorem ints_set3 {w : World} {b : Nat} (x y z : Value) (h0 : ∀ k n, w.cell? ⟨b, 0, none⟩ ≠ some (.int k n)) (h1 : ∀ k n, w.cell? ⟨b, 1, none⟩ ≠ some (.int k n)) (h2 : ∀ k n, w.cell? ⟨b, 2, none⟩ ≠ some (.int k n)) : Ints w (set3 w b x y z) := by
  unfold Proofs.Ytklnfhjgbmfilaa.set3
  refine (Ints.set h0).trans ((Ints.set fun k n => ?_).trans (Ints.set fun k n => ?_))
  · rw [World.cell?_setCell_other _ _ _ _ (by simp)]; exact h1 k n
  · rw [World.cell?_setCell_other _ _ _ _ (by simp), World.cell?_setCell_other _ _ _ _ (by simp)]; exact h2 k n
set_option maxRecDepth 20000 in
set_option maxHeartbeats 1600000 in
theorem ratioOf_any (p : Int) (q : Nat) (w : World) (h0 : -9223372036854775807 ≤ p) (h1 : p ≤ 9223372036854775807) (h2 : q < 9223372036854775808) :
    Calls Try.prog 94 #[.agg #[.int .i64 p, .int .i64 (q : Nat)]] w (RetRaw w (decide (p < 0)) p.natAbs q) := by
  obtain ⟨P, hP⟩ : ∃ P, p.natAbs = P := ⟨_, rfl⟩
  have hP63 : P < 9223372036854775808 := by omega
  obtain ⟨neg, hneg⟩ : ∃ neg, decide (p < 0) = neg := ⟨_, rfl⟩
  rw [hP, hneg]
  have HS := Lib.hid (fun (w : World) => size_any p w h0 h1)
  rw [hP] at HS
  clear hP
  go_enter Try.func94, Try.ntmps94
  go_wp2_with fail
  go_region_held3 (fun w' => w'.cell? ⟨w.heap.size, 0, none⟩ = some (.int .i64 p) ∧ w'.cell? ⟨w.heap.size, 1, none⟩ = some (.int .i64 (q : Nat)) ∧
      w'.cell? ⟨w.heap.size + 1, 0, none⟩ = some (oldVal w' ⟨w.heap.size + 1, 0, none⟩) ∧ w'.cell? ⟨w.heap.size + 1, 1, none⟩ = some (oldVal w' ⟨w.heap.size + 1, 1, none⟩) ∧ w'.cell? ⟨w.heap.size + 1, 2, none⟩ = some (oldVal w' ⟨w.heap.size + 1, 2, none⟩) ∧
      w'.frozen? ⟨w.heap.size + 1, 0, none⟩ = false ∧ w'.frozen? ⟨w.heap.size + 1, 1, none⟩ = false ∧ w'.frozen? ⟨w.heap.size + 1, 2, none⟩ = false ∧ w.heap.size < w'.heap.size ∧ w.heap.size + 1 < w'.heap.size)
    ((repeat' refine And.intro ?_ ?_) <;> first | (go_keep; done) | (refine oldVal_of ?_; (repeat refine some_set ?_); go_keep; done) | (go_keep; omega))
    (first
      | (go_at_call 96; refine (HS.out _).mono ?_; rintro e w' ⟨rfl, rfl⟩)
      | (go_at_call_of 95 (Value.int IntKind.i64 (P : Nat)); refine (naturalOf_kept P w.heap.size (w.heap.size + 1) _ (by omega) ?_ ?_).mono ?_; (first | omega | (simp [*]; done) | (simp [*]; omega)); (first | omega | (simp [*]; done) | (simp [*]; omega)); rintro e w' ⟨a1, k1, rfl, hx1, q0, q1, q2, q3, q4⟩)
      | (go_at_call_of 95 (Value.int IntKind.i64 (q : Nat)); refine (naturalOf_kept q w.heap.size (w.heap.size + 1) _ (by omega) ?_ ?_).mono ?_; (first | omega | (simp [*]; done) | (simp [*]; omega)); (first | omega | (simp [*]; done) | (simp [*]; omega)); rintro e w' ⟨a2, k2, rfl, hx2, r0, r1, r2, r3, r4⟩))
  go_wp2_with fail
  rename_i hHeld
  clear hHeld
  have hA := hx1.out
  have hB := hx2.out
  have hbw : Below w.heap.size w w' := by
    have h1 : Below w.heap.size w (((w.alloc (Obj.cells #[Value.int IntKind.i64 p, Value.int IntKind.i64 (q : Nat)] 33)).alloc (Obj.cells #[Value.bool false, Value.slice none 0 0, Value.slice none 0 0] 79)).drew) := (((Below.refl _ w).alloc (Nat.le_refl _) _).alloc (by simp only [alloc_size]; omega) _).drew
    exact (h1.trans (hA.2.1.mono h1.size)).trans (hB.2.1.mono (Nat.le_trans h1.size hA.2.1.size))
  refine bodyPost_ret (v := .agg #[.bool neg, .slice a1 (digs P).length k1, .slice a2 (digs q).length k2]) (by simp [results, Try.results94, go_sem, *]) rfl ⟨a1, k1, a2, k2, rfl, ?_, ?_, ?_⟩
  · exact (hA.1.below hB.2.1).set3 hA.2.2 _ _ _
  · exact hB.1.set3 hB.2.2 _ _ _
  · exact below_set3 hbw (by omega) _ _ _
set_option maxRecDepth 20000 in
set_option maxHeartbeats 800000 in
theorem whole_any (p : Int) (w : World) (h0 : -9223372036854775807 ≤ p) (h1 : p ≤ 9223372036854775807) :
    Calls Try.prog 45 #[.int .i64 p] w (RetRaw w (decide (p < 0)) p.natAbs 1) := by
  have HC := Lib.hid (fun w' => ratioOf_any p 1 w' h0 h1 (by omega))
  obtain ⟨neg, hneg⟩ : ∃ neg, decide (p < 0) = neg := ⟨_, rfl⟩
  obtain ⟨P, hP⟩ : ∃ P, p.natAbs = P := ⟨_, rfl⟩
  rw [hneg, hP] at HC ⊢
  clear hneg hP
  go_enter Try.func45, Try.ntmps45
  go_wp2_with fail
  refine (HC.out _).mono ?_
  rintro e w1 ⟨a1, k1, a2, k2, rfl, hx1, hx2, hb⟩
  have q0 := (bcell hb).1 w.heap.size 0 (by simp)
  have q1 := (bcell hb).1 w.heap.size 1 (by simp)
  have q2 := (bcell hb).1 w.heap.size 2 (by simp)
  have f0 := (bcell hb).2 w.heap.size 0 (by simp)
  have f1 := (bcell hb).2 w.heap.size 1 (by simp)
  have f2 := (bcell hb).2 w.heap.size 2 (by simp)
  have H := Lib.hid (And.intro hx1 (And.intro hx2 hb))
  clear hx1 hx2 hb
  go_wp2_with fail
  obtain ⟨hx1, hx2, hb⟩ := H.out
  have hI : Ints w1 (set3 w1 w.heap.size (.bool neg) (.slice a1 (digs P).length k1) (.slice a2 (digs 1).length k2)) := ints_set3 _ _ _ (by rw [q0]; simp) (by rw [q1]; simp) (by rw [q2]; simp)
  refine bodyPost_ret (v := .agg #[.bool neg, .slice a1 (digs P).length k1, .slice a2 (digs 1).length k2]) (by simp [results, Try.results45, go_sem, *]) rfl ⟨a1, k1, a2, k2, rfl, hx1.ints hI, hx2.ints hI, ?_⟩
  exact below_set3 (bthen ((Below.refl _ w).alloc (Nat.le_refl _) _) hb) (Nat.le_refl _) _ _ _
/-- A call's answer: a ratio. -/
def RetRat (w : World) (r : Rat) (e : Ending) (w' : World) : Prop := RetRaw w (decide (r.num < 0)) r.num.natAbs r.den e w'
theorem retRat_mk {w w' : World} {neg : Bool} {n d : Nat} {e : Ending} (hn : n ≠ 0) (hd : d ≠ 0) (h : RetRaw w neg (n / Nat.gcd n d) (d / Nat.gcd n d) e w') : RetRat w (mkRat (sgn neg n) d) e w' := by
  unfold RetRat
  rw [mk_neg hd, sgn_neg neg n hn, mk_abs hd, mk_den hd, sgn_abs]
  exact h
set_option maxRecDepth 20000 in
set_option maxHeartbeats 1600000 in
theorem lowest_zero (neg : Bool) (a1 a2 : Option Addr) (c1 c2 l2 : Nat) (w : World) :
    Calls Try.prog 97 #[.agg #[.bool neg, .slice a1 0 c1, .slice a2 l2 c2]] w (RetRaw w false 0 1) := by
  have HC := Lib.hid (fun w' => whole_any 0 w' (by omega) (by omega))
  go_enter Try.func97, Try.ntmps97
  go_wp2_with fail
  refine (HC.out _).mono ?_
  rintro e w1 ⟨b1, k1, b2, k2, rfl, hx1, hx2, hb⟩
  have q0 := (bcell hb).1 (w.heap.size + 1) 0 (by simp)
  have q1 := (bcell hb).1 (w.heap.size + 1) 1 (by simp)
  have q2 := (bcell hb).1 (w.heap.size + 1) 2 (by simp)
  have f0 := (bcell hb).2 (w.heap.size + 1) 0 (by simp)
  have f1 := (bcell hb).2 (w.heap.size + 1) 1 (by simp)
  have f2 := (bcell hb).2 (w.heap.size + 1) 2 (by simp)
  have H := Lib.hid (And.intro hx1 (And.intro hx2 hb))
  clear hx1 hx2 hb
  go_wp2_with fail
  obtain ⟨hx1, hx2, hb⟩ := H.out
  have hI : Ints w1 (set3 w1 (w.heap.size + 1) (.bool false) (.slice b1 (digs 0).length k1) (.slice b2 (digs 1).length k2)) := ints_set3 _ _ _ (by rw [q0]; simp) (by rw [q1]; simp) (by rw [q2]; simp)
  refine bodyPost_ret (v := .agg #[.bool false, .slice b1 (digs 0).length k1, .slice b2 (digs 1).length k2]) (by simp [results, Try.results97, go_sem, *]) rfl ⟨b1, k1, b2, k2, rfl, hx1.ints hI, hx2.ints hI, ?_⟩
  exact below_set3 (bthen (((Below.refl _ w).alloc (Nat.le_refl _) _).alloc (by simp) _) hb) (by omega) _ _ _
set_option maxRecDepth 20000 in
set_option maxHeartbeats 3200000 in
theorem lowest_pos (neg : Bool) (a1 a2 : Option Addr) (c1 c2 n d : Nat) (w : World) (hx1 : IsU32s w a1 (digs n).length (digs n)) (hx2 : IsU32s w a2 (digs d).length (digs d)) (hb1 : (digs n).length < 536870912) (hb2 : (digs d).length < 536870912) (hn : 0 < n) (hd : 0 < d) :
    Calls Try.prog 97 #[.agg #[.bool neg, .slice a1 (digs n).length c1, .slice a2 (digs d).length c2]] w (RetRaw w neg (n / Nat.gcd n d) (d / Nat.gcd n d)) := by
  obtain ⟨G, hG⟩ : ∃ G, Nat.gcd n d = G := ⟨_, rfl⟩
  have hGp : 0 < G := by rw [← hG]; exact Nat.gcd_pos_of_pos_left _ hn
  have hGl : (digs G).length < 536870912 := Nat.lt_of_le_of_lt (digs_len_mono (by rw [← hG]; exact Nat.gcd_le_left _ hn)) hb1
  have hl1 := digs_len_pos hn
  have HX := Lib.hid (And.intro hx1 (And.intro hx2 (And.intro hGp (And.intro hGl hG))))
  have HB := Lib.hid (And.intro hb1 hb2)
  rw [hG]
  have hne : (((digs n).length : Int) == 0) = false := by rw [beq_eq_false_iff_ne]; omega
  obtain ⟨m1, hm1⟩ : ∃ m, (digs n).length = m := ⟨_, rfl⟩
  obtain ⟨m2, hm2⟩ : ∃ m, (digs d).length = m := ⟨_, rfl⟩
  rw [hm1] at hne ⊢
  rw [hm2]
  have HM := Lib.hid (And.intro hm1 hm2)
  clear hx1 hx2 hG hGp hGl hb1 hb2 hl1 hm1 hm2
  have hA : Below w.heap.size w ((w.alloc (.cells #[.bool neg, .slice a1 m1 c1, .slice a2 m2 c2] 79)).alloc (.cells #[.bool false, .slice none 0 0, .slice none 0 0] 79)) := ((Below.refl _ w).alloc (Nat.le_refl _) _).alloc (by simp) _
  have HA := Lib.hid hA
  clear hA
  go_enter Try.func97, Try.ntmps97
  go_wp2_with fail
  have hsh := natShared_any a1 a2 c1 c2 n d _ (HX.out.1.below HA.out) (HX.out.2.1.below HA.out) HB.out.1 HB.out.2
  rw [HM.out.1, HM.out.2, HX.out.2.2.2.2] at hsh
  refine hsh.mono ?_
  clear hsh
  rintro e w1 ⟨b1, k1, rfl, hg1, hbb⟩
  have q0 := (bcell hbb).1 w.heap.size 0 (by simp only [alloc_size]; omega)
  have q1 := (bcell hbb).1 w.heap.size 1 (by simp only [alloc_size]; omega)
  have q2 := (bcell hbb).1 w.heap.size 2 (by simp only [alloc_size]; omega)
  have r0 := (bcell hbb).1 (w.heap.size + 1) 0 (by simp only [alloc_size]; omega)
  have r1 := (bcell hbb).1 (w.heap.size + 1) 1 (by simp only [alloc_size]; omega)
  have r2 := (bcell hbb).1 (w.heap.size + 1) 2 (by simp only [alloc_size]; omega)
  have f1 := (bcell hbb).2 w.heap.size 1 (by simp only [alloc_size]; omega)
  have f2 := (bcell hbb).2 w.heap.size 2 (by simp only [alloc_size]; omega)
  have g0 := (bcell hbb).2 (w.heap.size + 1) 0 (by simp only [alloc_size]; omega)
  have g1 := (bcell hbb).2 (w.heap.size + 1) 1 (by simp only [alloc_size]; omega)
  have g2 := (bcell hbb).2 (w.heap.size + 1) 2 (by simp only [alloc_size]; omega)
  simp at q0 q1 q2 r0 r1 r2 f1 f2 g0 g1 g2
  have H1 := Lib.hid (And.intro hg1 (And.intro (bthen HA.out hbb) hbb.size))
  obtain ⟨m3, hm3⟩ : ∃ m, (digs G).length = m := ⟨_, rfl⟩
  rw [hm3]
  have HM3 := Lib.hid hm3
  clear hg1 hbb hm3
  have hz1 : w.heap.size + 1 < w1.heap.size := by have := H1.out.2.2; simp only [alloc_size] at this; omega
  have ho1 := natOver_any a1 b1 c1 k1 n G w1 (HX.out.1.below H1.out.2.1) H1.out.1 HB.out.1 HX.out.2.2.2.1 HX.out.2.2.1
  rw [HM.out.1, HM3.out] at ho1
  have HO1 := Lib.hid ho1
  clear ho1
  go_wp2_with fail
  refine HO1.out.mono ?_
  rintro e w2 ⟨b2, k2, b3, k3, rfl, hx3, _, hb2⟩
  have q0' := ((bcell hb2).1 w.heap.size 0 (by omega)).trans q0
  have q1' := ((bcell hb2).1 w.heap.size 1 (by omega)).trans q1
  have q2' := ((bcell hb2).1 w.heap.size 2 (by omega)).trans q2
  have r0' := ((bcell hb2).1 (w.heap.size + 1) 0 hz1).trans r0
  have r1' := ((bcell hb2).1 (w.heap.size + 1) 1 hz1).trans r1
  have r2' := ((bcell hb2).1 (w.heap.size + 1) 2 hz1).trans r2
  have f1' := ((bcell hb2).2 w.heap.size 1 (by omega)).trans f1
  have f2' := ((bcell hb2).2 w.heap.size 2 (by omega)).trans f2
  have g0' := ((bcell hb2).2 (w.heap.size + 1) 0 hz1).trans g0
  have g1' := ((bcell hb2).2 (w.heap.size + 1) 1 hz1).trans g1
  have g2' := ((bcell hb2).2 (w.heap.size + 1) 2 hz1).trans g2
  have hz2 : w.heap.size + 1 < w2.heap.size := Nat.lt_of_lt_of_le hz1 hb2.size
  obtain ⟨m4, hm4⟩ : ∃ m, (digs (n / G)).length = m := ⟨_, rfl⟩
  obtain ⟨m5, hm5⟩ : ∃ m, (digs (n % G)).length = m := ⟨_, rfl⟩
  rw [hm4, hm5]
  have hI2 : Ints w2 (w2.setCell ⟨w.heap.size, 1, none⟩ (.slice b2 m4 k2)) := Ints.set (by rw [q1']; simp)
  have hB3 : Below w.heap.size w (w2.setCell ⟨w.heap.size, 1, none⟩ (.slice b2 m4 k2)) := (H1.out.2.1.trans (hb2.mono H1.out.2.1.size)).setCell (p := ⟨w.heap.size, 1, none⟩) (Nat.le_refl _) _
  have H2 := Lib.hid (And.intro (hx3.ints hI2) (And.intro (((HX.out.2.1.below H1.out.2.1).below hb2).ints hI2) (And.intro ((H1.out.1.below hb2).ints hI2) (And.intro hB3 hm4))))
  clear hx3 hb2 q0 q1 q2 r0 r1 r2 f1 f2 g0 g1 g2 hI2 hB3 hm4 hm5 hz1
  go_wp2_with fail
  have ho2 := natOver_any a2 b1 c2 k1 d G _ H2.out.2.1 H2.out.2.2.1 HB.out.2 HX.out.2.2.2.1 HX.out.2.2.1
  rw [HM.out.2, HM3.out] at ho2
  refine ho2.mono ?_
  clear ho2
  rintro e w3 ⟨b4, k4, b5, k5, rfl, hx4, _, hb3⟩
  have hz3 : w.heap.size + 1 < (w2.setCell ⟨w.heap.size, 1, none⟩ (.slice b2 m4 k2)).heap.size := by simpa [World.setCell] using hz2
  have s0 := (bcell hb3).1 w.heap.size 0 (by omega)
  have s1 := (bcell hb3).1 w.heap.size 1 (by omega)
  have s2 := (bcell hb3).1 w.heap.size 2 (by omega)
  have t0 := (bcell hb3).1 (w.heap.size + 1) 0 hz3
  have t1 := (bcell hb3).1 (w.heap.size + 1) 1 hz3
  have t2 := (bcell hb3).1 (w.heap.size + 1) 2 hz3
  have e2 := (bcell hb3).2 w.heap.size 2 (by omega)
  have d0 := (bcell hb3).2 (w.heap.size + 1) 0 hz3
  have d1 := (bcell hb3).2 (w.heap.size + 1) 1 hz3
  have d2 := (bcell hb3).2 (w.heap.size + 1) 2 hz3
  rw [World.cell?_setCell_other _ _ _ _ (by simp)] at s0 s2 t0 t1 t2
  rw [World.cell?_setCell_same _ _ _ q1'] at s1
  rw [World.frozen?_setCell] at e2 d0 d1 d2
  rw [q0'] at s0
  rw [q2'] at s2
  rw [r0'] at t0
  rw [r1'] at t1
  rw [r2'] at t2
  rw [f2'] at e2
  rw [g0'] at d0
  rw [g1'] at d1
  rw [g2'] at d2
  obtain ⟨m6, hm6⟩ : ∃ m, (digs (d / G)).length = m := ⟨_, rfl⟩
  obtain ⟨m7, hm7⟩ : ∃ m, (digs (d % G)).length = m := ⟨_, rfl⟩
  rw [hm6, hm7]
  have H3 := Lib.hid (And.intro (H2.out.1.below hb3) (And.intro hx4 (And.intro (bthen H2.out.2.2.2.1 hb3) hm6)))
  clear hx4 hb3 q0' q1' q2' r0' r1' r2' f1' f2' g0' g1' g2' hz2 hz3 hm6 hm7
  go_wp2_with fail
  have hI : Ints w3 (set3 (w3.setCell ⟨w.heap.size, 2, none⟩ (.slice b4 m6 k4)) (w.heap.size + 1) (.bool neg) (.slice b2 m4 k2) (.slice b4 m6 k4)) :=
    (Ints.set (by rw [s2]; simp)).trans (ints_set3 _ _ _ (by rw [World.cell?_setCell_other _ _ _ _ (by simp), t0]; simp) (by rw [World.cell?_setCell_other _ _ _ _ (by simp), t1]; simp) (by rw [World.cell?_setCell_other _ _ _ _ (by simp), t2]; simp))
  refine bodyPost_ret (v := .agg #[.bool neg, .slice b2 m4 k2, .slice b4 m6 k4]) (by simp [results, Try.results97, go_sem, *]) rfl ⟨b2, k2, b4, k4, by rw [H2.out.2.2.2.2, H3.out.2.2.2], H3.out.1.ints hI, H3.out.2.1.ints hI, ?_⟩
  exact below_set3 (H3.out.2.2.1.setCell (p := ⟨w.heap.size, 2, none⟩) (Nat.le_refl _) _) (by omega) _ _ _
theorem lowest_any (neg : Bool) (a1 a2 : Option Addr) (c1 c2 n d : Nat) (w : World) (hx1 : IsU32s w a1 (digs n).length (digs n)) (hx2 : IsU32s w a2 (digs d).length (digs d)) (hb1 : (digs n).length < 536870912) (hb2 : (digs d).length < 536870912) (hd : 0 < d) :
    Calls Try.prog 97 #[.agg #[.bool neg, .slice a1 (digs n).length c1, .slice a2 (digs d).length c2]] w (RetRat w (mkRat (sgn neg n) d)) := by
  by_cases h : n = 0
  · subst h
    have e : mkRat (sgn neg 0) d = 0 := by cases neg <;> simp [sgn]
    rw [e, show (digs 0).length = 0 by rw [digs_zero]; rfl]
    exact (lowest_zero neg a1 a2 c1 c2 _ w).mono fun e w' h => h
  · exact (lowest_pos neg a1 a2 c1 c2 n d w hx1 hx2 hb1 hb2 (Nat.pos_of_ne_zero h) hd).mono fun e w' hr => retRat_mk h (by omega) hr
end Go.Proofs.Ytklnfhjgbmfilaa

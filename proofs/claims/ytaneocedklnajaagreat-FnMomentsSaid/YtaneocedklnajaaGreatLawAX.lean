import Derived.Test.YtaneocedklnajaaGreatFrX
import Derived.Test.YtaneocedklnajaaGreatFrS
/- What a law on laws does with its argument: its size, its copy, and whether two laws are the same. -/
namespace Go.Proofs.YtaneocedklnajaaGreat
open Go.RowKit
set_option linter.unusedVariables false

theorem Tryz.infoFr2 : (Tryz.prog.info? 40).map (fun i => (i.zero, i.size, i.bytes)) = some (some (.agg #[.int .i64 0, .int .i64 0]), 2, 16) := by kernel_rfl
theorem zeros_two (n : Nat) : (madeCells #[Value.int .i64 0, Value.int .i64 0] n).toList = (List.replicate n (0 : Int)).map (Value.int .i64) := by
  apply List.ext_getElem
  · simp [size_madeCells]
  · intro i h1 h2
    simp only [madeCells, Array.toList_map, List.getElem_map, List.getElem_replicate, Array.toList_range, List.getElem_range]
    have : i % 2 = 0 ∨ i % 2 = 1 := by omega
    rcases this with h | h <;> simp [h]
theorem szInt64S_yes (a : Option Addr) (n cap : Nat) (l : Nat) (w : World) (hl : l ≤ 1048576) (hn : n ≤ l) : Calls Tryz.prog 23 #[.slice a n cap, .int .i64 (l : Nat)] w fun e w' => e = .returned (.int .i64 ((l - n : Nat) : Int)) ∧ w = w' := by
  have h1 : ((l - n : Nat) : Int) = (l : Int) - (n : Int) := by omega
  have h2 : ¬ (l : Int) - (n : Int) < 0 := by omega
  rw [h1]
  clear h1
  go_enter Tryz.func23, Tryz.ntmps23
  go_wp2
  go_ret
  exact ⟨rfl, rfl⟩
theorem szInt64S_no (a : Option Addr) (n cap : Nat) (l : Nat) (w : World) (hl : l ≤ 1048576) (hm : n ≤ maxLen) (hn : l < n) : Calls Tryz.prog 23 #[.slice a n cap, .int .i64 (l : Nat)] w fun e w' => e = .returned (.int .i64 (-1)) ∧ w = w' := by
  have h2 : (l : Int) - (n : Int) < 0 := by omega
  unfold maxLen at hm
  go_enter Tryz.func23, Tryz.ntmps23
  go_wp2
  go_ret
  exact ⟨rfl, rfl⟩
theorem szFrS_yes (a : Option Addr) (n cap : Nat) (l : Nat) (w : World) (hl : l ≤ 1048576) (hn : n ≤ l) : Calls Tryz.prog 24 #[.slice a n cap, .int .i64 (l : Nat)] w fun e w' => e = .returned (.int .i64 ((l - n : Nat) : Int)) ∧ w = w' := by
  have h1 : ((l - n : Nat) : Int) = (l : Int) - (n : Int) := by omega
  have h2 : ¬ (l : Int) - (n : Int) < 0 := by omega
  rw [h1]
  clear h1
  go_enter Tryz.func24, Tryz.ntmps24
  go_wp2
  go_ret
  exact ⟨rfl, rfl⟩
theorem szFrS_no (a : Option Addr) (n cap : Nat) (l : Nat) (w : World) (hl : l ≤ 1048576) (hm : n ≤ maxLen) (hn : l < n) : Calls Tryz.prog 24 #[.slice a n cap, .int .i64 (l : Nat)] w fun e w' => e = .returned (.int .i64 (-1)) ∧ w = w' := by
  have h2 : (l : Int) - (n : Int) < 0 := by omega
  unfold maxLen at hm
  go_enter Tryz.func24, Tryz.ntmps24
  go_wp2
  go_ret
  exact ⟨rfl, rfl⟩
theorem szLaw_yes (a1 a2 : Option Addr) (n m c1 c2 l : Nat) (w : World) (hl : l ≤ 1048576) (h : n + m ≤ l) :
    Calls Tryz.prog 5 #[.agg #[.slice a1 n c1, .slice a2 m c2], .int .i64 (l : Nat)] w fun e w' => e = .returned (.int .i64 ((l - n - m : Nat) : Int)) ∧ Below w.heap.size w w' := by
  have HA := Lib.hid ((Below.refl _ w).alloc (Nat.le_refl _) (.cells #[.slice a1 n c1, .slice a2 m c2] 25))
  have h1 : ¬ ((l - n : Nat) : Int) < 0 := by omega
  have h2 : ¬ ((l - n - m : Nat) : Int) < 0 := by omega
  have H1 := Lib.hid (fun w => szInt64S_yes a1 n c1 l w hl (by omega))
  have H2 := Lib.hid (fun w => szFrS_yes a2 m c2 (l - n) w (by omega) (by omega))
  obtain ⟨q, hq⟩ : ∃ q, l - n - m = q := ⟨_, rfl⟩
  rw [hq] at H2 h2 ⊢
  obtain ⟨p, hp⟩ : ∃ p, l - n = p := ⟨_, rfl⟩
  rw [hp] at H1 H2 h1
  clear hp hq h
  go_enter Tryz.func5, Tryz.ntmps5
  go_wp2_with fail
  refine (H1.out _).mono ?_
  rintro e w' ⟨rfl, rfl⟩
  go_wp2_with fail
  refine (H2.out _).mono ?_
  rintro e w' ⟨rfl, rfl⟩
  go_wp2
  go_ret
  exact ⟨rfl, HA.out⟩
theorem szLaw_no (a1 a2 : Option Addr) (n m c1 c2 l : Nat) (w : World) (hl : l ≤ 1048576) (hn : n ≤ maxLen) (hm : m ≤ maxLen) (h : l < n + m) :
    Calls Tryz.prog 5 #[.agg #[.slice a1 n c1, .slice a2 m c2], .int .i64 (l : Nat)] w fun e w' => e = .returned (.int .i64 (-1)) ∧ Below w.heap.size w w' := by
  have HA := Lib.hid ((Below.refl _ w).alloc (Nat.le_refl _) (.cells #[.slice a1 n c1, .slice a2 m c2] 25))
  by_cases hnl : n ≤ l
  · have h1 : ¬ ((l - n : Nat) : Int) < 0 := by omega
    have H1 := Lib.hid (fun w => szInt64S_yes a1 n c1 l w hl (by omega))
    have H2 := Lib.hid (fun w => szFrS_no a2 m c2 (l - n) w (by omega) hm (by omega))
    obtain ⟨p, hp⟩ : ∃ p, l - n = p := ⟨_, rfl⟩
    rw [hp] at H1 H2 h1
    clear hp h
    go_enter Tryz.func5, Tryz.ntmps5
    go_wp2_with fail
    refine (H1.out _).mono ?_
    rintro e w' ⟨rfl, rfl⟩
    go_wp2_with fail
    refine (H2.out _).mono ?_
    rintro e w' ⟨rfl, rfl⟩
    go_wp2
    go_ret
    exact ⟨rfl, HA.out⟩
  · have H1 := Lib.hid (fun w => szInt64S_no a1 n c1 l w hl hn (by omega))
    go_enter Tryz.func5, Tryz.ntmps5
    go_wp2_with fail
    refine (H1.out _).mono ?_
    rintro e w' ⟨rfl, rfl⟩
    go_wp2
    go_ret
    exact ⟨rfl, HA.out⟩
set_option maxHeartbeats 1600000 in
theorem toFractionS_own (a : Option Addr) (n cap : Nat) (fs : List Int) (w : World) (hb : n ≤ 1048576) (hx : IsInts w a (n * 2) fs) :
    Calls Tryz.prog 31 #[.slice a n cap] w fun e w' => ∃ g c, e = .returned (.slice (some ⟨g, 0, none⟩) n c) ∧ w'.ownsRow w.heap.size 40 2 (.slice (some ⟨g, 0, none⟩) n c) n (fs.map (Value.int .i64)) ∧ Below w.heap.size w w' := by
  obtain ⟨i0, hi, hz0, hz1, hz2⟩ := info_parts Tryz.infoFr2
  have HL := Lib.hid hx.1
  have Hm := Lib.hid (zeros_two (n * 2))
  have HX := Lib.hid hx
  clear hx
  go_enter Tryz.func31, Tryz.ntmps31
  go_wp2_with (at_make; refine wpList_make_full _ rfl _ _ 27 rfl w.heap.size 40 i0 (.agg #[.int .i64 0, .int .i64 0]) 2 Tryz.underlying27 hi hz0 hz1 _ _ _ _ n rfl rfl rfl rfl ?c1 ?c2 ?c3 ?_)
  case c1 => rw [hz2]; omega
  case c2 => unfold maxLen; omega
  case c3 => exact Nat.le_refl _
  intro w1 hown hgrow
  have hbw : Below w.heap.size w w1 := (Below.refl _ _).grown hgrow (Nat.le_refl _) (by simp)
  rw [Hm.out] at hown
  have H0 := Lib.hid (And.intro (show w1.ownsRow w.heap.size 40 2 (.slice (some ⟨w.heap.size, 0, none⟩) n n) n ((part fs 0 fs.length).map (Value.int .i64)) by rw [show part fs 0 fs.length = List.replicate (n * 2) 0 by simp [part, HL.out]]; exact hown) hbw)
  clear hgrow hown hbw
  obtain ⟨g, hg⟩ : ∃ g, w.heap.size = g := ⟨_, rfl⟩
  have HG := Lib.hid hg
  rw [hg] at H0 ⊢
  clear hg
  go_wp2_with fail
  go_loopw [4] (fun i wr => ∃ k : Nat, k ≤ n ∧ i = .int .i64 (k : Nat) ∧ Hid (wr.ownsRow g 40 2 (.slice (some ⟨g, 0, none⟩) n n) n ((part fs (k * 2) fs.length).map (Value.int .i64)) ∧ Below g w wr)) (fun i _ => n - (intOf i).toNat)
  case atStart => exact ⟨0, Nat.zero_le _, rfl, Lib.hid (by rw [Nat.zero_mul]; exact H0.out)⟩
  case round =>
    clear H0
    obtain ⟨k, hk, rfl, HO⟩ := hrel
    by_cases hlt : k < n
    · obtain ⟨b, off, rfl, c1, c2⟩ := fr_at (HX.out.below (by rw [HG.out]; exact HO.out.2)) hlt
      have hk0 : (0:Int) ≤ (k:Int) := by omega
      have hkl : (k:Int) < (n:Int) := by omega
      obtain ⟨x, hxx⟩ : ∃ x, frN fs k = x := ⟨_, rfl⟩
      obtain ⟨y, hyy⟩ : ∃ y, frD fs k = y := ⟨_, rfl⟩
      rw [hxx] at c1
      rw [hyy] at c2
      have HXY := Lib.hid (And.intro hxx hyy)
      clear hxx hyy
      go_wp2_with fail
      refine (toFraction_any x y _).mono ?_
      rintro e w2 ⟨rfl, hb2⟩
      have hlen := part_len fs (k * 2) (by rw [HL.out]; omega)
      have ho := own_below HO.out.1 hb2
      have q1 := ho.cellAt (k * 2) (by omega)
      have q2 := ho.cellAt (k * 2 + 1) (by omega)
      have f1 := ho.frozenAt (k * 2)
      have f2 := ho.frozenAt (k * 2 + 1)
      have s1 := ho.stored (k * 2) (.int .i64 (fs.getD (k * 2) 0))
      rw [part_set fs (k * 2) (by rw [HL.out]; omega)] at s1
      have s2 := s1.1.stored (k * 2 + 1) (.int .i64 (fs.getD (k * 2 + 1) 0))
      rw [part_set fs (k * 2 + 1) (by rw [HL.out]; omega), show fs.getD (k * 2) 0 = x from HXY.out.1, show fs.getD (k * 2 + 1) 0 = y from HXY.out.2] at s2
      have hgw : g ≤ wr.heap.size := by have := HO.out.2.size; have := HG.out; omega
      have H2 := Lib.hid (And.intro s2.1 (((HO.out.2.trans (hb2.mono hgw)).setCell (p := ⟨g, k * 2, none⟩) (Nat.le_refl g) (.int .i64 x)).setCell (p := ⟨g, k * 2 + 1, none⟩) (Nat.le_refl g) (.int .i64 y)))
      have q1' : w2.cell? ⟨g, k * 2, none⟩ = some (.int .i64 ((part fs (k * 2) fs.length).getD (k * 2) 0)) := by
        rw [q1]; simp [List.getD, List.getElem?_eq_getElem (show k * 2 < (part fs (k * 2) fs.length).length by rw [hlen, HL.out]; omega)]
      have q2' : w2.cell? ⟨g, k * 2 + 1, none⟩ = some (.int .i64 ((part fs (k * 2) fs.length).getD (k * 2 + 1) 0)) := by
        rw [q2]; simp [List.getD, List.getElem?_eq_getElem (show k * 2 + 1 < (part fs (k * 2) fs.length).length by rw [hlen, HL.out]; omega)]
      obtain ⟨u1, hu1⟩ : ∃ u, (part fs (k * 2) fs.length).getD (k * 2) 0 = u := ⟨_, rfl⟩
      obtain ⟨u2, hu2⟩ : ∃ u, (part fs (k * 2) fs.length).getD (k * 2 + 1) 0 = u := ⟨_, rfl⟩
      rw [hu1] at q1'
      rw [hu2] at q2'
      clear q1 q2 hu1 hu2 s1 s2 ho hlen hb2 hgw c1 c2
      go_wp2_with fail
      go_roundw
      case rel => exact ⟨k + 1, by omega, by go_num, Lib.hid (by rw [show (k + 1) * 2 = k * 2 + 1 + 1 by omega]; exact H2.out)⟩
      case measure => simp [intOf]; omega
    · obtain rfl : k = n := by omega
      go_wp2
      go_ret
      refine ⟨g, k, rfl, ?_, by rw [HG.out]; exact HO.out.2⟩
      have := HO.out.1
      rw [show part fs (k * 2) fs.length = fs by simp [part, HL.out]; rw [List.take_of_length_le (by rw [HL.out]; omega)]] at this
      rw [HG.out]; exact this

theorem own_set {w : World} {B T sz : Nat} {v : Value} {n : Nat} {xs : List Value} (h : w.ownsRow B T sz v n xs) {b : Nat} (hb : b < B) (o : Nat) (u : Value) : (w.setCell ⟨b, o, none⟩ u).ownsRow B T sz v n xs := by
  refine own_grown h (u := .slice (some ⟨b, 0, none⟩) 0 0) (grownBy_setCell w ⟨b, o, none⟩ u) ?_
  cases hv : v.ownBlock with
  | none => exact Or.inl hv
  | some k =>
    right
    rw [hv]
    intro he
    have h1 := (h.lt k hv).1
    simp only [Value.ownBlock, Option.some.injEq] at he
    omega
/-- A law of the call's own: both lists owned, apart. -/
structure Law2 (w : World) (B g1 g2 c1 c2 n m : Nat) (vs fs : List Int) : Prop where
  val : w.ownsRow B 2 1 (.slice (some ⟨g1, 0, none⟩) n c1) n (vs.map (Value.int .i64))
  cha : w.ownsRow B 40 2 (.slice (some ⟨g2, 0, none⟩) m c2) m (fs.map (Value.int .i64))
  ne : g1 ≠ g2
theorem Law2.below {w w' : World} {B g1 g2 c1 c2 n m : Nat} {vs fs : List Int} (h : Law2 w B g1 g2 c1 c2 n m vs fs) (hb : Below w.heap.size w w') : Law2 w' B g1 g2 c1 c2 n m vs fs := ⟨own_below h.val hb, own_below h.cha hb, h.ne⟩
theorem Law2.mono {w : World} {B B' g1 g2 c1 c2 n m : Nat} {vs fs : List Int} (h : Law2 w B g1 g2 c1 c2 n m vs fs) (hB : B' ≤ B) : Law2 w B' g1 g2 c1 c2 n m vs fs := ⟨own_mono h.val hB, own_mono h.cha hB, h.ne⟩
theorem Law2.ints {w : World} {B g1 g2 c1 c2 n m : Nat} {vs fs : List Int} (h : Law2 w B g1 g2 c1 c2 n m vs fs) : IsInts w (some ⟨g1, 0, none⟩) n vs ∧ IsInts w (some ⟨g2, 0, none⟩) (m * 2) fs := ⟨IsInts.of_own h.val, IsInts.of_own2 h.cha⟩
def RetLaw2 (w : World) (n m : Nat) (vs fs : List Int) (e : Ending) (w' : World) : Prop := ∃ g1 c1 g2 c2, e = .returned (.agg #[.slice (some ⟨g1, 0, none⟩) n c1, .slice (some ⟨g2, 0, none⟩) m c2]) ∧ Law2 w' w.heap.size g1 g2 c1 c2 n m vs fs ∧ Below w.heap.size w w'
set_option maxHeartbeats 1600000 in
theorem toLaw_any (a1 a2 : Option Addr) (n m c1 c2 : Nat) (vs fs : List Int) (w : World) (hn : n ≤ 1048576) (hm : m ≤ 1048576) (h1 : IsInts w a1 n vs) (h2 : IsInts w a2 (m * 2) fs) :
    Calls Tryz.prog 7 #[.agg #[.slice a1 n c1, .slice a2 m c2]] w (RetLaw2 w n m vs fs) := by
  obtain rfl := h1.1
  have HX2 := Lib.hid h2
  obtain ⟨t0, t1, t2⟩ := three_boxes w (.cells #[.slice a1 vs.length c1, .slice a2 m c2] 25) (.cells #[.slice none 0 0, .slice none 0 0] 29) (.cells #[.slice none 0 0, .slice none 0 0] 29)
  have HA0 : Below w.heap.size w (((w.alloc (.cells #[.slice a1 vs.length c1, .slice a2 m c2] 25)).alloc (.cells #[.slice none 0 0, .slice none 0 0] 29)).alloc (.cells #[.slice none 0 0, .slice none 0 0] 29)) := (((Below.refl _ w).alloc (Nat.le_refl _) _).alloc (by simp) _).alloc (by simp only [alloc_size]; omega) _
  have H0 := Lib.hid (And.intro (C2.of_heap t0) (And.intro (C2.of_heap t1) (And.intro (C2.of_heap t2) (And.intro (h1.below HA0) (And.intro (h2.below HA0) HA0)))))
  clear t0 t1 t2 HA0 h1 h2
  go_enter Tryz.func7, Tryz.ntmps7
  go_wp2_with fail
  obtain ⟨wA, hwA⟩ : ∃ w', (((w.alloc (.cells #[.slice a1 vs.length c1, .slice a2 m c2] 25)).alloc (.cells #[.slice none 0 0, .slice none 0 0] 29)).alloc (.cells #[.slice none 0 0, .slice none 0 0] 29)) = w' := ⟨_, rfl⟩
  rw [hwA] at H0 ⊢
  clear hwA
  refine (toInt64S_own a1 _ c1 vs wA hn H0.out.2.2.2.1).mono ?_
  rintro e w1 ⟨g1, k1, rfl, ho1, hb1⟩
  have hgg := (ho1.lt g1 rfl)
  have H1 := Lib.hid (And.intro (H0.out.1.all hb1) (And.intro (H0.out.2.1.all hb1) (And.intro (H0.out.2.2.1.all hb1) (And.intro ho1 (And.intro (bthen H0.out.2.2.2.2.2 hb1) (And.intro H0.out.2.2.1.lt hgg))))))
  clear ho1 hb1 hgg H0
  obtain ⟨x0, x1, x2, x3, x4⟩ := H1.out.1
  obtain ⟨z0, z1, z2, z3, z4⟩ := H1.out.2.2.1
  go_wp2_with fail
  obtain ⟨wB, hwB⟩ : ∃ w', w1.setCell ⟨w.heap.size + 1 + 1, 0, none⟩ (.slice (some ⟨g1, 0, none⟩) vs.length k1) = w' := ⟨_, rfl⟩
  have hs : wB.heap.size = w1.heap.size := by rw [← hwB, World.size_setCell]
  have hbB : Below w.heap.size w wB := by rw [← hwB]; exact H1.out.2.2.2.2.1.setCell (p := ⟨w.heap.size + 1 + 1, 0, none⟩) (by show w.heap.size ≤ w.heap.size + 1 + 1; omega) _
  have hoB : wB.ownsRow wA.heap.size 2 1 (.slice (some ⟨g1, 0, none⟩) vs.length k1) vs.length (vs.map (Value.int .i64)) := by rw [← hwB]; exact own_set H1.out.2.2.2.1 H1.out.2.2.2.2.2.1 0 _
  have h0B : C2 wB w.heap.size (.slice a1 vs.length c1) (.slice a2 m c2) := by rw [← hwB]; exact H1.out.1.other (by omega) _
  have h1B : C2 wB (w.heap.size + 1) (.slice none 0 0) (.slice none 0 0) := by rw [← hwB]; exact H1.out.2.1.other (by omega) _
  have h2B : C2 wB (w.heap.size + 1 + 1) (.slice (some ⟨g1, 0, none⟩) vs.length k1) (.slice none 0 0) := by rw [← hwB]; exact H1.out.2.2.1.set0 _
  rw [hwB]
  clear hwB x0 x1 x2 x3 x4 z0 z1 z2 z3 z4
  have H2 := Lib.hid (And.intro h1B (And.intro h2B (And.intro hoB (And.intro hbB (And.intro hs (And.intro H1.out.2.2.2.2.2.2 H1.out.2.2.2.2.2.1))))))
  clear h0B h1B h2B hoB hbB hs H1
  refine (toFractionS_own a2 m c2 fs wB hm (HX2.out.below H2.out.2.2.2.1)).mono ?_
  rintro e w3 ⟨g2, k2, rfl, ho2, hb3⟩
  have hg2 := (ho2.lt g2 rfl)
  have hne : g1 ≠ g2 := by have := H2.out.2.2.2.2.1; have := H2.out.2.2.2.2.2.1; omega
  have H3 := Lib.hid (And.intro (H2.out.1.all hb3) (And.intro (H2.out.2.1.all hb3) (And.intro (own_below H2.out.2.2.1 hb3) (And.intro ho2 (And.intro (bthen H2.out.2.2.2.1 hb3) (And.intro hne (And.intro (show wA.heap.size ≤ wB.heap.size by have := H2.out.2.2.2.2.1; have := H2.out.2.2.2.2.2.1; omega) H2.out.2.2.2.2.2.2)))))))
  clear ho2 hb3 hg2 hne H2
  obtain ⟨z0, z1, z2, z3, z4⟩ := H3.out.2.1
  obtain ⟨y0, y1, y2, y3, y4⟩ := H3.out.1
  go_wp2_with fail
  refine bodyPost_ret (v := .agg #[.slice (some ⟨g1, 0, none⟩) vs.length k1, .slice (some ⟨g2, 0, none⟩) m k2]) (by simp [results, Tryz.results7, go_sem, *]) rfl ⟨g1, k1, g2, k2, rfl, ⟨?_, ?_, H3.out.2.2.2.2.2.1⟩, ?_⟩
  · have hA := H3.out.2.2.2.2.2.2.2
    refine own_mono (B := wA.heap.size) ?_ (by omega)
    exact own_set (own_set (own_set H3.out.2.2.1 hA _ _) (by omega) _ _) (by omega) _ _
  · have hA := H3.out.2.2.2.2.2.2.2
    have hAB := H3.out.2.2.2.2.2.2.1
    refine own_mono (B := wB.heap.size) ?_ (by omega)
    exact own_set (own_set (own_set H3.out.2.2.2.1 (by omega) _ _) (by omega) _ _) (by omega) _ _
  · exact below_two (H3.out.2.2.2.2.1.setCell (p := ⟨w.heap.size + 1 + 1, 1, none⟩) (by show w.heap.size ≤ w.heap.size + 1 + 1; omega) _) (by omega) _ _
end Go.Proofs.YtaneocedklnajaaGreat
/- The law on valid laws. No condition. -/
namespace Go.Proofs.YtaneocedklnajaaGreat
open Go.RowKit
set_option linter.unusedVariables false

set_option maxHeartbeats 800000 in
theorem eqLaw_read (a1 a2 b1 b2 : Option Addr) (n m c1 c2 d1 d2 : Nat) (vs fs : List Int) (w : World) (hn : n ≤ 1048576) (hm : m ≤ 1048576) (h1 : IsInts w a1 n vs) (h2 : IsInts w a2 (m * 2) fs) (k1 : IsInts w b1 n vs) (k2 : IsInts w b2 (m * 2) fs) :
    Calls Tryz.prog 9 #[.agg #[.slice a1 n c1, .slice a2 m c2], .agg #[.slice b1 n d1, .slice b2 m d2]] w (Ret w (.bool true)) := by
  have hA : Below w.heap.size w ((w.alloc (.cells #[.slice a1 n c1, .slice a2 m c2] 29)).alloc (.cells #[.slice b1 n d1, .slice b2 m d2] 29)) := ((Below.refl _ w).alloc (Nat.le_refl _) _).alloc (by simp) _
  have H0 := Lib.hid (And.intro (h1.below hA) (And.intro (h2.below hA) (And.intro (k1.below hA) (And.intro (k2.below hA) hA))))
  have h0a : C2 ((w.alloc (.cells #[.slice a1 n c1, .slice a2 m c2] 29)).alloc (.cells #[.slice b1 n d1, .slice b2 m d2] 29)) w.heap.size (.slice a1 n c1) (.slice a2 m c2) := (C2.new w _ _ _).all ((Below.refl _ _).alloc (Nat.le_refl _) _)
  have h0b : C2 ((w.alloc (.cells #[.slice a1 n c1, .slice a2 m c2] 29)).alloc (.cells #[.slice b1 n d1, .slice b2 m d2] 29)) (w.heap.size + 1) (.slice b1 n d1) (.slice b2 m d2) := by
    have := C2.new (w.alloc (.cells #[.slice a1 n c1, .slice a2 m c2] 29)) 29 (.slice b1 n d1) (.slice b2 m d2)
    rw [alloc_size] at this; exact this
  have HC := Lib.hid (And.intro h0a h0b)
  have HE := Lib.hid (fun w (h : IsInts w a1 n vs) (k : IsInts w b1 n vs) => eqInt64S_any a1 b1 n n c1 d1 vs vs w (by omega) h k)
  rw [decide_eq_true (rfl : vs = vs)] at HE
  clear hA h1 h2 k1 k2 h0a h0b
  go_enter Tryz.func9, Tryz.ntmps9
  go_wp2_with fail
  refine (HE.out _ H0.out.1 H0.out.2.2.1).mono ?_
  rintro e w1 ⟨rfl, hb1⟩
  have H1 := Lib.hid (And.intro (H0.out.2.1.below hb1) (And.intro (H0.out.2.2.2.1.below hb1) (bthen H0.out.2.2.2.2 hb1)))
  have HC1 := Lib.hid (And.intro (HC.out.1.all hb1) (HC.out.2.all hb1))
  obtain ⟨x0, x1, x2, x3, x4⟩ := HC1.out.1
  obtain ⟨y0, y1, y2, y3, y4⟩ := HC1.out.2
  clear hb1
  go_wp2_with fail
  refine (eqFrS_same _ _ m _ _ fs _ hm H1.out.1 H1.out.2.1).mono ?_
  rintro e w2 ⟨rfl, hb2⟩
  have H2 := Lib.hid (bthen H1.out.2.2 hb2)
  clear hb2
  go_wp2
  go_ret
  exact ⟨rfl, H2.out⟩
/-- What a law's walk carries: the box with its argument, the argument's lists, and what was there. -/
structure LwI (w : World) (V C : Value) (a1 a2 : Option Addr) (n m : Nat) (vs fs : List Int) (wr : World) : Prop where
  bx : C2 wr w.heap.size V C
  val : IsInts wr a1 n vs
  cha : IsInts wr a2 (m * 2) fs
  bel : Below w.heap.size w wr
theorem LwI.all {w wr wx : World} {V C : Value} {a1 a2 : Option Addr} {n m : Nat} {vs fs : List Int} (h : LwI w V C a1 a2 n m vs fs wr) (hb : Below wr.heap.size wr wx) : LwI w V C a1 a2 n m vs fs wx := ⟨h.bx.all hb, h.val.below hb, h.cha.below hb, bthen h.bel hb⟩
theorem LwI.start {w : World} {V C : Value} {a1 a2 : Option Addr} {n m : Nat} {vs fs : List Int} (h1 : IsInts w a1 n vs) (h2 : IsInts w a2 (m * 2) fs) (t : Nat) : LwI w V C a1 a2 n m vs fs (w.alloc (.cells #[V, C] t (0, 0))) :=
  have hb : Below w.heap.size w (w.alloc (.cells #[V, C] t (0, 0))) := (Below.refl _ _).alloc (Nat.le_refl _) _
  ⟨C2.new w _ _ _, h1.below hb, h2.below hb, hb⟩
end Go.Proofs.YtaneocedklnajaaGreat
/- The walks of the laws on functions of a law that answer with a fraction and whether there is one, given what both sides answer. -/
namespace Go.Proofs.YtaneocedklnajaaGreat
open Go.RowKit
set_option linter.unusedVariables false

end Go.Proofs.YtaneocedklnajaaGreat

import Derived.Test.YtpineiocjaajnaaShP
import Derived.Lib.AppendZeros
/- The shortest wave: the library's Clone of nothing, Grow, Concat. Conditions: few numbers. -/
namespace Go.Proofs.Ytpineiocjaajnaa
open Go.RowKit
set_option linter.unusedVariables false

theorem grow_made (w : World) (E : TypeId) (cs : Array Value) (c : Nat) (hc : cs.size = c) (hm : c ≤ maxLen) : GrowAt w (w.drew.alloc (.cells cs E)) E (.slice (some ⟨w.heap.size, 0, none⟩) 0 c) 0 [] := by
  refine ⟨⟨rfl, Or.inr ⟨w.heap.size, c, cs, rfl, Nat.le_refl _, ?_, by omega, hm, by omega, by simp⟩⟩, (Below.refl _ w).drew.alloc (Nat.le_refl _) _⟩
  exact heap_at_new w.drew (.cells cs E)
theorem zeroCells_size (n : Nat) : (Builtin.zeroCells (Value.int .i64 0).cells n).size = n := by
  unfold Builtin.zeroCells
  simp [Value.cells]
set_option maxRecDepth 100000 in
set_option maxHeartbeats 800000 in
theorem growNil_any (n : Nat) (w : World) (h0 : 0 < n) (hn : n ≤ 1000) : Calls Try.prog 92 #[.slice none 0 0, .int .i64 (n : Nat)] w fun e w' => ∃ v, e = .returned v ∧ GrowAt w w' 2 v 0 [] := by
  obtain ⟨i0, hi, hz0, hz1, hz2⟩ := info_parts Try.infoI
  have hr := fun ty => Lib.run_append_nil_zeros (P := Try.prog) w 24 3 ty 2 i0 (.int .i64 0) .i64 .i64 Try.underlying24 (by kernel_rfl) hi hz0 n h0 (by omega) (by omega) (by rw [hz2]; omega)
  have hG := grownCap_ge w n 0 2
  have hG2 := grownCap_le_maxLen w n 0 2 (by unfold maxLen; omega)
  obtain ⟨G, hGe⟩ : ∃ G, grownCap w n 0 2 = G := ⟨_, rfl⟩
  rw [hGe] at hr hG hG2
  have HF := Lib.hid (grow_made w 2 (Builtin.zeroCells (Value.int .i64 0).cells n ++ Builtin.zeroCells (Value.int .i64 0).cells (G - n)) G (by rw [Array.size_append, zeroCells_size, zeroCells_size]; omega) hG2)
  have hG63 : G ≤ 9223372036854775807 := by unfold maxLen at hG2; omega
  have hn0 : ¬ (n : Int) < 0 := by omega
  have hn1 : (0 : Int) < (n : Int) := by omega
  have hnw : IntKind.i64.wrap (n : Int) = n := IntWalk.i64_in _ (by omega)
  have HG2 := Lib.hid hG2
  clear hGe hG2
  go_enter Try.func92, Try.ntmps92
  go_wp2_with (at_builtin; refine Lib.wpList_append_run _ rfl _ _ _ _ rfl _ _ rfl rfl _ _ (hr _) ?_)
  all_goals (go_ret; exact ⟨_, rfl, HF.out⟩)
set_option maxRecDepth 100000 in
theorem cloneNil_any (w : World) : Calls Try.prog 60 #[.slice none 0 0] w fun e w' => e = .returned (.slice none 0 0) ∧ w' = w := by
  have heq := Lib.run_eql_slice_nil (P := Try.prog) w 24 2 none 0 0 0 0 Try.underlying24
  go_enter Try.func60, Try.ntmps60
  go_wp2
  go_ret
  exact ⟨rfl, rfl⟩
theorem news_of {w w' : World} {g off n : Nat} {xs : List Int} {B : Nat} (hx : IsInts w (some ⟨g, off, none⟩) n xs) (hb : Below w.heap.size w w') : ∀ j u, (xs.map (Value.int .i64))[j]? = some u → w'.cell? ((⟨g, off, none⟩ : Addr).add j) = some u := by
  intro j u hu
  have hj : j < n := by
    have := (List.getElem?_eq_some_iff.1 hu).1
    rw [List.length_map, hx.1] at this
    exact this
  obtain ⟨b', f', e, hc⟩ := (hx.below hb).at hj
  simp only [Option.some.injEq, Addr.mk.injEq] at e
  obtain ⟨rfl, rfl, _⟩ := e
  have hplain : (⟨g, off, none⟩ : Addr).add j = ⟨g, off + j, none⟩ := by unfold Addr.add; split <;> simp_all
  rw [hplain, hc, ← hu]
  simp [List.getD, List.getElem?_eq_getElem (show j < xs.length by rw [hx.1]; exact hj)]
theorem one_cell (xs : List Int) : ∀ u ∈ xs.map (Value.int .i64), u.oneCell' = true := by
  intro u hu
  obtain ⟨d, _, rfl⟩ := List.mem_map.1 hu
  rfl
set_option maxRecDepth 100000 in
set_option maxHeartbeats 1600000 in
theorem concat_any (b g1 g2 o2 n c2 : Nat) (x : Int) (ys : List Int) (w : World) (hn : 1 ≤ n ∧ n ≤ 10) (hc0 : w.cell? ⟨b, 0, none⟩ = some (.slice (some ⟨g1, 0, none⟩) 1 1)) (hc1 : w.cell? ⟨b, 1, none⟩ = some (.slice (some ⟨g2, o2, none⟩) n c2))
    (hx : IsInts w (some ⟨g1, 0, none⟩) 1 [x]) (hy : IsInts w (some ⟨g2, o2, none⟩) n ys) :
    Calls Try.prog 63 #[.slice (some ⟨b, 0, none⟩) 2 2] w (RetOwn w (x :: ys)) := by
  obtain ⟨i0, hi, hz0, hz1, hz2⟩ := info_parts Try.infoI
  have HX := Lib.hid hx
  have HY := Lib.hid hy
  have HC := Lib.hid (And.intro hc0 hc1)
  have hyl : ys.length = n := hy.1
  have hsum : IntKind.i64.wrap (1 + (n : Int)) = ((1 + n : Nat) : Int) := by rw [IntWalk.i64_in _ (by omega)]; omega
  have hsum0 : ¬ ((1 + n : Nat) : Int) < 0 := by omega
  clear hx hy
  go_enter Try.func63, Try.ntmps63
  go_wp2_with fail
  go_loopw [3, 11] (fun s i wr => ((s = .int .i64 0 ∧ i = .int .i64 0) ∨ (s = .int .i64 1 ∧ i = .int .i64 1) ∨ (s = .int .i64 ((1 + n : Nat) : Int) ∧ i = .int .i64 2)) ∧ wr = w) (fun _ i _ => 2 - (intOf i).toNat)
  case atStart => exact ⟨Or.inl ⟨rfl, rfl⟩, rfl⟩
  case round =>
    obtain ⟨⟨rfl, rfl⟩ | ⟨rfl, rfl⟩ | ⟨rfl, rfl⟩, rfl⟩ := hrel
    · go_wp2_with fail
      go_roundw
      case rel => exact ⟨Or.inr (Or.inl ⟨rfl, rfl⟩), trivial⟩
      case measure => simp [intOf]
    · go_wp2_with fail
      go_roundw
      case rel => exact ⟨Or.inr (Or.inr ⟨rfl, rfl⟩), trivial⟩
      case measure => simp [intOf]
    · go_wp2_with fail
      refine (growNil_any (1 + n) _ (by omega) (by omega)).mono ?_
      rintro e w1 ⟨v, rfl, hg⟩
      have HG := Lib.hid hg
      clear hg hc0 hc1
      obtain ⟨w, rfl⟩ : ∃ w, w = wr := ⟨_, rfl⟩
      go_wp2_with fail
      go_loopw [6, 27] (fun s i wr => ∃ (k : Nat) (xs : List Int), Hid ((k = 0 ∧ xs = []) ∨ (k = 1 ∧ xs = [x]) ∨ (k = 2 ∧ xs = x :: ys)) ∧ i = .int .i64 (k : Nat) ∧ Hid (GrowAt w wr 2 s xs.length (xs.map (Value.int .i64)))) (fun _ i _ => 2 - (intOf i).toNat)
      case atStart => exact ⟨0, [], Lib.hid (Or.inl ⟨rfl, rfl⟩), rfl, HG⟩
      case round =>
        obtain ⟨k, xs, HK, rfl, HW⟩ := hrel
        have HB := Lib.hid (show Below w.heap.size w wr from HW.out.2)
        rcases HK.out with ⟨rfl, rfl⟩ | ⟨rfl, rfl⟩ | ⟨rfl, rfl⟩
        · have hc0 := (HB.out.cell (p := ⟨b, 0, none⟩) (World.block_lt_of_cell? w _ HC.out.1)).trans HC.out.1
          clear HK
          go_wp2_with (at_builtin; refine wpList_append_own _ rfl (.tmp 31) (.tmp 32) 24 rfl w.heap.size 2 i0 (.int .i64 0) 1 8 Try.underlying24 hi hz0 hz1 hz2 rfl (by decide) _ 0 [] rfl HW.out.1 ⟨g1, 0, none⟩ 1 1 ([x].map (Value.int .i64)) rfl rfl (news_of (B := 0) HX.out HB.out) (one_cell _) ?c1 ?c2 ?c3 ?_)
          case c1 => unfold maxLen; omega
          case c2 => omega
          case c3 => exact HB.out.size
          intro v' w6 hown hgrow _
          have H2 := Lib.hid (show GrowAt w w6 2 v' [x].length ([x].map (Value.int .i64)) from ⟨hown, below_grown HB.out HW.out.1 hgrow HB.out.size⟩)
          clear hown hgrow
          go_wp2_with fail
          go_roundw
          case rel => exact ⟨1, [x], Lib.hid (Or.inr (Or.inl ⟨rfl, rfl⟩)), rfl, H2⟩
          case measure => simp [intOf]
        · have hc1 := (HB.out.cell (p := ⟨b, 1, none⟩) (World.block_lt_of_cell? w _ HC.out.2)).trans HC.out.2
          clear HK
          go_wp2_with (at_builtin; refine wpList_append_own _ rfl (.tmp 31) (.tmp 32) 24 rfl w.heap.size 2 i0 (.int .i64 0) 1 8 Try.underlying24 hi hz0 hz1 hz2 rfl (by decide) _ 1 ([x].map (Value.int .i64)) rfl HW.out.1 ⟨g2, o2, none⟩ n c2 (ys.map (Value.int .i64)) rfl ?cl (news_of (B := 0) HY.out HB.out) (one_cell _) ?c1 ?c2 ?c3 ?_)
          case cl => rw [List.length_map, hyl]; omega
          case c1 => unfold maxLen; omega
          case c2 => omega
          case c3 => exact HB.out.size
          intro v' w6 hown hgrow _
          have H2 := Lib.hid (show GrowAt w w6 2 v' (x :: ys).length ((x :: ys).map (Value.int .i64)) from ⟨by rw [List.length_cons, hyl, show n + 1 = 1 + n by omega]; exact hown, below_grown HB.out HW.out.1 hgrow HB.out.size⟩)
          clear hown hgrow
          go_wp2_with fail
          go_roundw
          case rel => exact ⟨2, x :: ys, Lib.hid (Or.inr (Or.inr ⟨rfl, rfl⟩)), rfl, H2⟩
          case measure => simp [intOf]
        · clear HK
          go_wp2_with fail
          go_ret
          exact ⟨_, rfl, HW.out⟩
end Go.Proofs.Ytpineiocjaajnaa

import Derived.Test.YtaneocedklnajaaGreatOwnX
import Derived.Test.YtaneocedklnajaaGreatBinX
import Derived.Test.YtaneocedklnajaaGreatBitsX
import Derived.Test.YtaneocedklnajaaGreatShelf
import Derived.Deep.LoopGhost
import Derived.Deep.DeepCutAuto
/- Ways to choose, in the program and the reference. Condition: numbers up to 50. -/
namespace Go.Proofs.YtaneocedklnajaaGreat
open Go.RowKit
set_option linter.unusedVariables false

theorem pow_50 {n : Nat} (hn : n ≤ 50) : 2 ^ n ≤ 1125899906842624 := Nat.pow_le_pow_right (show 0 < 2 by omega) hn
/-- The first j numbers of a row of ways to choose. -/
def binR (n j : Nat) : List Int := (List.range j).map fun i => ((bin n i : Nat) : Int)
theorem binR_len (n j : Nat) : (binR n j).length = j := by simp [binR]
theorem binR_at {n j i : Nat} (h : i < j) : (binR n j).getD i 0 = (bin n i : Nat) := by simp [binR, List.getD, h]
theorem binR_succ (n j : Nat) : binR n (j + 1) = binR n j ++ [((bin n j : Nat) : Int)] := by simp [binR, List.range_succ]
theorem GrowAt.one (w : World) (z : Int) : GrowAt w (w.alloc (.cells #[.int .i64 z] 2)) 2 (.slice (some ⟨w.heap.size, 0, none⟩) 1 1) 1 ([z].map (Value.int .i64)) :=
  ⟨⟨rfl, Or.inr ⟨w.heap.size, 1, _, rfl, Nat.le_refl _, heap_at_new _ _, Nat.le_refl _, by simp [maxLen], rfl, rfl⟩⟩, (Below.refl _ _).alloc (Nat.le_refl _) _⟩
theorem GrowAt.base {w w1 wr : World} {E : TypeId} {v : Value} {n : Nat} {xs : List Value} (hb : Below w.heap.size w w1) (h : GrowAt w1 wr E v n xs) : GrowAt w wr E v n xs := ⟨own_mono h.1 hb.size, bthen hb h.2⟩
theorem GrowAt.i64 {w wr w6 : World} {v v' : Value} {n : Nat} {xs : List Int} {z : Int} {o : Obj} (h : GrowAt w wr 2 v n (xs.map (Value.int .i64))) (hown : w6.ownsRow w.heap.size 2 1 v' (n + 1) (xs.map (Value.int .i64) ++ [.int .i64 z])) (hg : (wr.alloc o).grownBy w6 v.ownBlock) :
    GrowAt w w6 2 v' (n + 1) ((xs ++ [z]).map (Value.int .i64)) := by
  rw [List.map_append]
  exact (h.alloc o).push hown hg
set_option maxRecDepth 100000 in
set_option maxHeartbeats 1600000 in
theorem l01Choose_any (n k : Nat) (w : World) (hn : n ≤ 50) (hk : k ≤ n) :
    Calls Tryz.prog 122 #[.int .i64 (n : Nat), .int .i64 (k : Nat)] w (Ret w (.int .i64 (bin n k : Nat))) := by
  have hki : (k:Int) < (n:Int) + 1 := by omega
  have hk0 : (0:Int) ≤ (k:Int) := by omega
  have H0 := Lib.hid (GrowAt.one w 1)
  go_enter Tryz.func122, Tryz.ntmps122
  go_wp2
  go_loopg [6, 5] n (fun g v6 v5 wr => ∃ (i : Nat) (a : Option Addr) (c : Nat), i ≤ n ∧ g = n - i ∧ v6 = .int .i64 (i : Nat) ∧ v5 = .slice a (i + 1) c ∧ Hid (GrowAt w wr 2 (.slice a (i + 1) c) (i + 1) ((binR i (i + 1)).map (Value.int .i64))))
  case atStart => exact ⟨0, _, _, Nat.zero_le _, rfl, rfl, rfl, Lib.hid H0.out⟩
  case round =>
    clear H0
    obtain ⟨i, a, c, hi, rfl, rfl, rfl, HR⟩ := hrel
    by_cases hlt : i < n
    · have hii : (i:Int) < (n:Int) := by omega
      have hi0 : (0:Int) ≤ (i:Int) := by omega
      have HX := Lib.hid (IsInts.of_own HR.out.1)
      have HN0 := Lib.hid (GrowAt.one wr 1)
      obtain ⟨wa, hwa⟩ : ∃ wa : World, wa = wr := ⟨_, rfl⟩
      subst hwa
      go_wp2
      go_loopg [8, 7] i (fun g v8 v7 wx => ∃ (j : Nat) (v : Value), j ≤ i ∧ g = i - j ∧ v8 = .int .i64 ((j + 1 : Nat) : Int) ∧ v7 = v ∧ Hid (GrowAt wa wx 2 v (j + 1) ((binR (i + 1) (j + 1)).map (Value.int .i64))))
      case atStart => exact ⟨0, _, Nat.zero_le _, rfl, rfl, rfl, Lib.hid (by rw [show binR (i + 1) (0 + 1) = [1] by simp [binR, bin]]; exact HN0.out)⟩
      case round =>
        clear HN0
        obtain ⟨j, v, hj, rfl, rfl, rfl, HG⟩ := hrel
        rw [show ((j + 1 : Nat) : Int) = (j : Int) + 1 by omega]
        obtain ⟨av, cv, rfl⟩ := own_form HG.out.1
        by_cases hji : j < i
        · have hx := HX.out.below HG.out.2
          obtain ⟨b, off, rfl, c1⟩ := hx.at (show j < i + 1 by omega)
          obtain ⟨b1, off1, e1, c2⟩ := hx.at (show j + 1 < i + 1 by omega)
          simp only [Option.some.injEq, Addr.mk.injEq] at e1
          obtain ⟨rfl, rfl, _⟩ := e1
          rw [binR_at (by omega)] at c1 c2
          have hst : bin (i + 1) (j + 1) = bin i j + bin i (j + 1) := rfl
          have hb1 := Nat.le_trans (bin_le_pow i j) (pow_50 (show i ≤ 50 by omega))
          have hb2 := Nat.le_trans (bin_le_pow i (j + 1)) (pow_50 (show i ≤ 50 by omega))
          obtain ⟨x, hxx⟩ : ∃ x, bin i j = x := ⟨_, rfl⟩
          obtain ⟨y, hyy⟩ : ∃ y, bin i (j + 1) = y := ⟨_, rfl⟩
          rw [hxx] at c1 hst hb1
          rw [hyy] at c2 hst hb2
          have HS := Lib.hid (show binR (i + 1) (j + 1 + 1) = binR (i + 1) (j + 1) ++ [(x : Int) + (y : Int)] by rw [binR_succ, hst]; simp)
          have hj0 : (0:Int) ≤ (j:Int) := by omega
          have hj1 : (0:Int) ≤ (j:Int) + 1 := by omega
          have hjl : (j:Int) + 1 < (i:Int) + 1 := by omega
          have hjl2 : (j:Int) < (i:Int) + 1 := by omega
          have hww : IntKind.i64.wrap ((x : Int) + (y : Int)) = (x : Int) + (y : Int) := IntWalk.i64_in _ (by omega)
          have hwj : IntKind.i64.wrap (j : Int) = (j : Int) := IntWalk.i64_in _ (by omega)
          have HOW := Lib.hid (HG.out.alloc (.cells #[.int .i64 ((x : Int) + (y : Int))] 2)).1.drew
          clear hx hst hxx hyy
          go_wp2_with fail
          go_region_law (first
            | (refine step_ap1 rfl (.tmp 22) (.tmp 33) 22 rfl wa.heap.size 2 (.int .i64 0) 8 Tryz.underlying22 Tryz.infoI rfl _ (j + 1) _ rfl HOW.out wr.heap.size (.int .i64 ((x : Int) + (y : Int))) rfl (by go_simp) rfl (by omega) (by omega) (by have := HG.out.2.size; simp only [heap_drew, alloc_size]; omega) ?_; intro v' w6 hown hgrow hat))
          all_goals
            have HG3 := Lib.hid (HG.out.i64 hown (grownBy_trans (grownBy_drewN _ 1 _) hgrow))
            clear hown hgrow hat
            go_wp2
            go_roundg (i - (j + 1))
            case measure => omega
            case rel => exact ⟨j + 1, _, by omega, rfl, by go_num, rfl, Lib.hid (by rw [HS.out]; exact HG3.out)⟩
        · obtain rfl : j = i := by omega
          have HOW := Lib.hid (HG.out.alloc (.cells #[.int .i64 1] 2)).1
          go_wp2_with (at_builtin; refine wpList_ap1 rfl (.tmp 35) (.tmp 36) 22 rfl wa.heap.size 2 (.int .i64 0) 8 Tryz.underlying22 Tryz.infoI rfl _ (j + 1) _ rfl HOW.out wr.heap.size (.int .i64 1) rfl (by go_simp) rfl (by omega) (by omega) (by have := HG.out.2.size; simp only [alloc_size]; omega) ?_)
          intro v' w6 hown hgrow _
          obtain ⟨a6, c6, rfl⟩ := own_form hown
          have HG3 := Lib.hid (GrowAt.base HR.out.2 (HG.out.i64 hown hgrow))
          clear hown hgrow
          go_wp2
          go_roundg (n - (j + 1))
          case measure => omega
          case rel => exact ⟨j + 1, _, _, by omega, rfl, by go_num, rfl, Lib.hid (by rw [binR_succ (j + 1) (j + 1), bin_self]; exact HG3.out)⟩
    · obtain rfl : i = n := by omega
      obtain ⟨b, off, rfl, c1⟩ := (IsInts.of_own HR.out.1).at (show k < i + 1 by omega)
      rw [binR_at (by omega)] at c1
      go_wp2
      go_ret
      exact ⟨rfl, HR.out.2⟩
end Go.Proofs.YtaneocedklnajaaGreat

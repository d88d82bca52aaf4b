import Derived.Test.YtaneocedklnajaaGreatJlP
/- A number put into an ascending list: the reference's walk. Condition: the list is not too long. -/
namespace Go.Proofs.YtaneocedklnajaaGreat
open Go.RowKit
set_option linter.unusedVariables false

theorem drop_cons {zs : List Int} {i : Nat} (h : i < zs.length) : zs.drop i = zs.getD i 0 :: zs.drop (i + 1) := by
  rw [List.drop_eq_getElem_cons h, getD_eq _ _ h]
def PutI (zs : List Int) (x : Int) (i : Nat) (done : Bool) (xs : List Int) : Prop := putL zs x = xs ++ (if done then zs.drop i else putL (zs.drop i) x)
theorem PutI.old {zs xs : List Int} {x : Int} {i : Nat} (h : PutI zs x i true xs) (hi : i < zs.length) : PutI zs x (i + 1) true (xs ++ [zs.getD i 0]) := by
  unfold PutI at *
  rw [if_pos rfl] at *
  rw [h, drop_cons hi]; simp
theorem PutI.less {zs xs : List Int} {x : Int} {i : Nat} (h : PutI zs x i false xs) (hi : i < zs.length) (hx : zs.getD i 0 < x) : PutI zs x (i + 1) false (xs ++ [zs.getD i 0]) := by
  unfold PutI at *
  rw [if_neg (by simp)] at *
  rw [h, drop_cons hi, putL, if_neg (by omega), if_neg (by omega)]; simp
theorem PutI.hit {zs xs : List Int} {x : Int} {i : Nat} (h : PutI zs x i false xs) (hi : i < zs.length) (hx : zs.getD i 0 = x) : PutI zs x (i + 1) true (xs ++ [zs.getD i 0]) := by
  unfold PutI at *
  rw [if_neg (by simp)] at h
  rw [if_pos rfl]
  rw [h, drop_cons hi, putL, if_neg (by omega), if_pos hx.symm]; simp
theorem PutI.over {zs xs : List Int} {x : Int} {i : Nat} (h : PutI zs x i false xs) (hi : i < zs.length) (hx : x < zs.getD i 0) : PutI zs x (i + 1) true ((xs ++ [x]) ++ [zs.getD i 0]) := by
  unfold PutI at *
  rw [if_neg (by simp)] at h
  rw [if_pos rfl]
  rw [h, drop_cons hi, putL, if_pos hx]; simp
theorem PutI.end1 {zs xs : List Int} {x : Int} (h : PutI zs x zs.length true xs) : putL zs x = xs := by
  unfold PutI at h
  rw [if_pos rfl, List.drop_length] at h
  simpa using h
theorem PutI.end0 {zs xs : List Int} {x : Int} (h : PutI zs x zs.length false xs) : putL zs x = xs ++ [x] := by
  unfold PutI at h
  rw [if_neg (by simp), List.drop_length] at h
  simpa [putL] using h
theorem jl_push {w wr w6 : World} {v v' : Value} {n : Nat} {xs : List Int} {z : Int} (h : GrowAt w wr 2 v n (xs.map (Value.int .i64))) (hown : w6.ownsRow w.heap.size 2 1 v' (n + 1) (xs.map (Value.int .i64) ++ [.int .i64 z])) (hg : wr.grownBy w6 v.ownBlock) : GrowAt w w6 2 v' (n + 1) ((xs ++ [z]).map (Value.int .i64)) := by
  rw [List.map_append]; exact h.push hown hg
set_option maxRecDepth 20000 in
set_option maxHeartbeats 1600000 in
theorem l00Put_any (a : Option Addr) (n c : Nat) (zs : List Int) (x : Int) (w : World) (hn : n ≤ 100000) (h : IsInts w a n zs) :
    Calls Tryz.prog 28 #[.slice a n c, .int .i64 x] w (RetInts w (putL zs x)) := by
  have hzl := h.1
  have HG0 := Lib.hid (GrowAt.start w 2)
  have HX := Lib.hid (And.intro h hzl)
  have HP0 := Lib.hid (show PutI zs x 0 false [] by unfold PutI; simp)
  clear h hzl
  go_enter Tryz.func28, Tryz.ntmps28
  go_wp2
  go_loopw [7, 6, 5] (fun i d v wr => ∃ (k : Nat) (done : Bool) (xs : List Int) (v0 : Value), k ≤ n ∧ i = .int .i64 (k : Nat) ∧ d = .bool done ∧ v0 = v ∧ xs.length ≤ 2 * k + 1 ∧ Hid (PutI zs x k done xs ∧ GrowAt w wr 2 v0 xs.length (xs.map (Value.int .i64)))) (fun i _ _ _ => n - (intOf i).toNat)
  case atStart => exact ⟨0, false, [], _, Nat.zero_le _, rfl, rfl, rfl, by simp, Lib.hid ⟨HP0.out, HG0.out⟩⟩
  case round =>
    clear HG0 HP0
    obtain ⟨k, done, xs, v, hk, rfl, rfl, rfl, hxl, HF⟩ := hrel
    by_cases hlt : k < n
    · obtain ⟨b, off, rfl, hc⟩ := (HX.out.1.below HF.out.2.2).at hlt
      have hk0 : (0:Int) ≤ (k:Int) := by omega
      have hki : (k:Int) < (n:Int) := by omega
      obtain ⟨y, hy⟩ : ∃ y, zs.getD k 0 = y := ⟨_, rfl⟩
      rw [hy] at hc
      have HY := Lib.hid (And.intro hy (show k < zs.length by rw [HX.out.2]; exact hlt))
      obtain ⟨ln, hln⟩ : ∃ ln, xs.length = ln := ⟨_, rfl⟩
      rw [hln] at hxl
      have HLn := Lib.hid hln
      clear hy hln
      cases done with
      | true =>
        have HA := Lib.hid (HF.out.2.alloc (.cells #[.int .i64 y] 2))
        rw [HLn.out] at HA
        go_wp2_with (at_builtin; refine wpList_ap1 rfl (.tmp 35) (.tmp 40) 22 rfl w.heap.size 2 (.int .i64 0) 8 Tryz.underlying22 Tryz.infoI rfl _ ln _ rfl HA.out.1 wr.heap.size (.int .i64 y) rfl (by go_simp) rfl (by omega) (by omega) HA.out.2.size ?_)
        intro v' w6 hown hgrow hat
        have HF2 := Lib.hid (jl_push HA.out hown hgrow)
        clear hown hgrow hat
        go_wp2
        go_roundw
        case rel => exact ⟨k + 1, true, xs ++ [y], _, by omega, by go_num, rfl, rfl, by rw [List.length_append, HLn.out]; simp; omega, Lib.hid ⟨by rw [← HY.out.1]; exact HF.out.1.old HY.out.2, by rw [List.length_append, HLn.out]; exact HF2.out⟩⟩
        case measure => simp [intOf]; omega
      | false =>
        by_cases hlx : y < x
        · have hge : ¬ y ≥ x := by omega
          have hge2 : ¬ x ≤ y := by omega
          have HA := Lib.hid (HF.out.2.alloc (.cells #[.int .i64 y] 2))
          rw [HLn.out] at HA
          go_wp2_with (at_builtin; refine wpList_ap1 rfl (.tmp 35) (.tmp 40) 22 rfl w.heap.size 2 (.int .i64 0) 8 Tryz.underlying22 Tryz.infoI rfl _ ln _ rfl HA.out.1 wr.heap.size (.int .i64 y) rfl (by go_simp) rfl (by omega) (by omega) HA.out.2.size ?_)
          intro v' w6 hown hgrow hat
          have HF2 := Lib.hid (jl_push HA.out hown hgrow)
          clear hown hgrow hat
          go_wp2
          go_roundw
          case rel => exact ⟨k + 1, false, xs ++ [y], _, by omega, by go_num, rfl, rfl, by rw [List.length_append, HLn.out]; simp; omega, Lib.hid ⟨by rw [← HY.out.1]; exact HF.out.1.less HY.out.2 (by rw [HY.out.1]; exact hlx), by rw [List.length_append, HLn.out]; exact HF2.out⟩⟩
          case measure => simp [intOf]; omega
        · have hge : y ≥ x := by omega
          have hge2 : x ≤ y := by omega
          by_cases hgt : x < y
          · have hgt2 : y > x := hgt
            have HA := Lib.hid (HF.out.2.alloc (.cells #[.int .i64 x] 2))
            rw [HLn.out] at HA
            go_wp2_with (at_builtin; refine wpList_ap1 rfl (.tmp 31) (.tmp 33) 22 rfl w.heap.size 2 (.int .i64 0) 8 Tryz.underlying22 Tryz.infoI rfl _ ln _ rfl HA.out.1 wr.heap.size (.int .i64 x) rfl (by go_simp) rfl (by omega) (by omega) HA.out.2.size ?_)
            intro v' w6 hown hgrow hat
            have HF2 := Lib.hid (jl_push HA.out hown hgrow)
            clear hown hgrow hat
            obtain ⟨b2, off2, he2, hc2⟩ := (HX.out.1.below HF2.out.2).at hlt
            cases he2
            rw [HY.out.1] at hc2
            have HB := Lib.hid (HF2.out.alloc (.cells #[.int .i64 y] 2))
            clear hc
            go_wp2_with (at_builtin; refine wpList_ap1 rfl (.tmp 35) (.tmp 40) 22 rfl w.heap.size 2 (.int .i64 0) 8 Tryz.underlying22 Tryz.infoI rfl _ (ln + 1) _ rfl HB.out.1 w6.heap.size (.int .i64 y) rfl (by go_simp) rfl (by omega) (by omega) HB.out.2.size ?_)
            intro v7 w7 hown hgrow hat
            have HF3 := Lib.hid (jl_push (xs := xs ++ [x]) (z := y) HB.out (by rw [List.map_append, List.append_assoc]; exact hown) hgrow)
            clear hown hgrow hat
            go_wp2
            go_roundw
            case rel => exact ⟨k + 1, true, (xs ++ [x]) ++ [y], _, by omega, by go_num, rfl, rfl, by rw [List.length_append, List.length_append, HLn.out]; simp; omega, Lib.hid ⟨by rw [← HY.out.1]; exact HF.out.1.over HY.out.2 (by rw [HY.out.1]; exact hgt), by rw [List.length_append, List.length_append, HLn.out]; exact HF3.out⟩⟩
            case measure => simp [intOf]; omega
          · have hgt2 : ¬ y > x := hgt
            have HA := Lib.hid (HF.out.2.alloc (.cells #[.int .i64 y] 2))
            rw [HLn.out] at HA
            go_wp2_with (at_builtin; refine wpList_ap1 rfl (.tmp 35) (.tmp 40) 22 rfl w.heap.size 2 (.int .i64 0) 8 Tryz.underlying22 Tryz.infoI rfl _ ln _ rfl HA.out.1 wr.heap.size (.int .i64 y) rfl (by go_simp) rfl (by omega) (by omega) HA.out.2.size ?_)
            intro v' w6 hown hgrow hat
            have HF2 := Lib.hid (jl_push HA.out hown hgrow)
            clear hown hgrow hat
            go_wp2
            go_roundw
            case rel => exact ⟨k + 1, true, xs ++ [y], _, by omega, by go_num, rfl, rfl, by rw [List.length_append, HLn.out]; simp; omega, Lib.hid ⟨by rw [← HY.out.1]; exact HF.out.1.hit HY.out.2 (by rw [HY.out.1]; omega), by rw [List.length_append, HLn.out]; exact HF2.out⟩⟩
            case measure => simp [intOf]; omega
    · obtain rfl : k = n := by omega
      have hki : ¬ (k:Int) < (k:Int) := by omega
      cases done with
      | true =>
        have HR := Lib.hid (show RetInts w (putL zs x) (.returned v) wr by
          have h1 := HF.out.1
          rw [← HX.out.2] at h1
          rw [h1.end1]
          exact RetInts.of_grow HF.out.2)
        go_wp2
        go_ret
        exact HR.out
      | false =>
        obtain ⟨ln, hln⟩ : ∃ ln, xs.length = ln := ⟨_, rfl⟩
        rw [hln] at hxl
        have HLn := Lib.hid hln
        clear hln
        have HA := Lib.hid (HF.out.2.alloc (.cells #[.int .i64 x] 2))
        rw [HLn.out] at HA
        go_wp2_with (at_builtin; refine wpList_ap1 rfl (.tmp 44) (.tmp 46) 22 rfl w.heap.size 2 (.int .i64 0) 8 Tryz.underlying22 Tryz.infoI rfl _ ln _ rfl HA.out.1 wr.heap.size (.int .i64 x) rfl (by go_simp) rfl (by omega) (by omega) HA.out.2.size ?_)
        intro v' w6 hown hgrow hat
        have HF2 := Lib.hid (jl_push HA.out hown hgrow)
        clear hown hgrow hat
        have HR := Lib.hid (show RetInts w (putL zs x) (.returned v') w6 by
          have h1 := HF.out.1
          rw [← HX.out.2] at h1
          rw [h1.end0]
          exact RetInts.of_grow HF2.out)
        go_wp2
        go_ret
        exact HR.out
end Go.Proofs.YtaneocedklnajaaGreat

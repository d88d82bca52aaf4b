import Derived.Test.YthjndfbjalkckaaDoorDecP
import Derived.Test.YthjndfbjalkckaaDoorOwnX
import Derived.Test.YthjndfbjalkckaaDoorShelf
/- The decimal text of a number, and the text of a list: program and reference. Condition: the table of powers of ten is laid; numbers are int64. -/
namespace Go.Proofs.YthjndfbjalkckaaDoor
open Go.RowKit
set_option linter.unusedVariables false

/-- The text of a number. -/
def itB (n : Int) : ByteArray := ⟨(Lib.itoa n).toArray⟩
theorem itB_nums (n : Int) : strOfNums (decN n) = itB n := decN_str n
theorem dgs_len19 {n : Int} (h : n.natAbs < 10 ^ 19) : (dgs n.natAbs).length ≤ 19 := dgs_len 19 _ h
theorem itB_size {n : Int} (h : n.natAbs < 10 ^ 19) : (itB n).size ≤ 20 := by
  rw [← itB_nums, strOfNums_size]
  unfold decN
  split
  · simp
  · rw [List.length_reverse, List.length_append]
    have := dgs_len19 h
    split <;> simp <;> omega
theorem Tryd.infoB9d : (Tryd.prog.info? 5).map (fun i => (i.zero, i.size, i.bytes)) = some (some (.int .u8 0), 1, 1) := by kernel_rfl
/-- The digits that are still to come. -/
structure DecS (n r : Int) (u : Nat) (xs : List Int) : Prop where
  abs : r.natAbs = u
  pos : 0 ≤ n → 0 ≤ r
  neg : n < 0 → r ≤ 0
  dig : xs ++ dgs u = dgs n.natAbs
theorem DecS.len {n r : Int} {u : Nat} {xs : List Int} (h : DecS n r u xs) (hn : n.natAbs < 10 ^ 19) : xs.length ≤ 19 := by
  have h1 := dgs_len19 hn
  rw [← h.dig, List.length_append] at h1
  omega
/-- One step: the last digit and the rest. -/
theorem DecS.step {n r : Int} {u : Nat} {xs : List Int} (h : DecS n r u xs) (h0 : r ≠ 0) : ∃ (d r2 : Int) (x : Nat), r.tmod 10 = d ∧ r.tdiv 10 = r2 ∧ x ≤ 9 ∧ (d < 0 → -d = (x : Int)) ∧ (¬ d < 0 → d = (x : Int)) ∧ DecS n r2 (u / 10) (xs ++ [48 + (x : Int)]) := by
  obtain ⟨ha, hp, hn, hd⟩ := h
  have hu : u ≠ 0 := by omega
  rw [dgs_pos hu] at hd
  refine ⟨_, _, u % 10, rfl, rfl, by omega, ?_, ?_, ?_⟩
  · intro h
    rcases Int.le_total 0 r with h1 | h1
    · rw [Int.tmod_eq_emod_of_nonneg h1] at h ⊢; omega
    · obtain ⟨k, rfl⟩ : ∃ k : Nat, r = -(k : Int) := ⟨r.natAbs, by omega⟩
      rw [Int.neg_tmod, Int.tmod_eq_emod_of_nonneg (by omega)]; omega
  · intro h
    rcases Int.le_total 0 r with h1 | h1
    · rw [Int.tmod_eq_emod_of_nonneg h1]; omega
    · obtain ⟨k, rfl⟩ : ∃ k : Nat, r = -(k : Int) := ⟨r.natAbs, by omega⟩
      rw [Int.neg_tmod, Int.tmod_eq_emod_of_nonneg (by omega)] at h ⊢; omega
  · refine ⟨?_, fun h => ?_, fun h => ?_, ?_⟩
    · rw [Int.natAbs_tdiv, ha]; rfl
    · have := hp h
      rw [Int.tdiv_eq_ediv_of_nonneg this]; omega
    · have := hn h
      obtain ⟨k, rfl⟩ : ∃ k : Nat, r = -(k : Int) := ⟨r.natAbs, by omega⟩
      rw [Int.neg_tdiv, Int.tdiv_eq_ediv_of_nonneg (by omega)]; omega
    · rw [List.append_assoc]; exact hd
set_option maxRecDepth 20000 in
set_option maxHeartbeats 3200000 in
theorem l01Dec_any (n : Int) (w : World) (hl : -9223372036854775808 ≤ n) (hr : n ≤ 9223372036854775807) :
    Calls Tryd.prog 71 #[.int .i64 n] w fun e w' => e = .returned (.string (itB n)) ∧ Below w.heap.size w w' := by
  have hn19 : n.natAbs < 10 ^ 19 := by omega
  by_cases h0 : n = 0
  · subst h0
    go_enter Tryd.func71, Tryd.ntmps71
    go_wp2_with fail
    go_ret
    exact ⟨by rw [← itB_nums]; rfl, Below.refl _ _⟩
  · have H0 := Lib.hid (show GrowAt w (w.alloc (.cells #[] 5)) 5 (.slice (some ⟨w.heap.size, 0, none⟩) 0 0) 0 (([] : List Int).map (Value.int .u8)) from GrowAt.start w 5)
    have hnb : (n == 0) = false := by simpa using h0
    have HS0 := Lib.hid (show DecS n n n.natAbs [] from ⟨rfl, id, fun h => by omega, rfl⟩)
    go_enter Tryd.func71, Tryd.ntmps71
    go_wp2_with fail
    go_loopw [4, 3] (fun i v wr => ∃ (r : Int) (u m : Nat) (a : Option Addr) (c : Nat) (xs : List Int), i = .int .i64 r ∧ v = .slice a m c ∧ -9223372036854775808 ≤ r ∧ r ≤ 9223372036854775807 ∧ m ≤ 19 ∧ Hid (xs.length = m ∧ DecS n r u xs) ∧ Hid (GrowAt w wr 5 (.slice a m c) m (xs.map (Value.int .u8)))) (fun i _ _ => (intOf i).natAbs)
    case atStart => exact ⟨n, _, 0, _, _, [], rfl, rfl, hl, hr, by omega, Lib.hid ⟨rfl, HS0.out⟩, H0⟩
    case round =>
      clear H0 HS0
      obtain ⟨r, u, m, a, c, xs, rfl, rfl, hrl, hrr, hm, HS, HG⟩ := hrel
      by_cases hr0 : r = 0
      · subst hr0
        have hdig := HS.out.2.dig
        have habs := HS.out.2.abs
        obtain rfl : u = 0 := by rw [← habs]; rfl
        rw [dgs_zero, List.append_nil] at hdig
        have HD := Lib.hid (show (decN n) = (xs ++ (if n < 0 then [45] else [])).reverse by unfold decN; rw [if_neg h0, hdig])
        have HL := Lib.hid HS.out.1
        clear hdig habs HS
        by_cases hneg : n < 0
        · have HOW := Lib.hid (HG.out.alloc (.cells #[.int .u8 45] 5)).1
          have hsz := HG.out.2.size
          go_wp2_with (at_builtin; refine wpList_ap1 rfl (.tmp 30) (.tmp 31) 28 rfl w.heap.size 5 (.int .u8 0) 1 Tryd.underlying28 Tryd.infoB9d rfl _ m _ rfl HOW.out _ (.int .u8 45) rfl (by go_simp) rfl (by omega) (by omega) (by simp only [alloc_size]; omega) ?_)
          intro v' w6 hown hgrow _
          obtain ⟨a6, c6, rfl⟩ := own_form hown
          have HG3 := Lib.hid (show GrowAt w w6 5 (.slice a6 (m + 1) c6) (m + 1) ((xs ++ [45]).map (Value.int .u8)) by
            rw [List.map_append]
            exact (HG.out.alloc _).push hown hgrow)
          have HD2 := Lib.hid (show decN n = (xs ++ [45]).reverse ∧ (xs ++ [45]).length = m + 1 from ⟨by rw [HD.out, if_pos hneg], by rw [List.length_append, HL.out]; rfl⟩)
          clear hown hgrow HD HL HG HOW
          obtain ⟨ys, hys⟩ : ∃ ys, xs ++ [45] = ys := ⟨_, rfl⟩
          obtain ⟨M, hM⟩ : ∃ M, m + 1 = M := ⟨_, rfl⟩
          have hM20 : M ≤ 20 := by omega
          rw [hys] at HG3 HD2
          rw [hM] at HG3 HD2 ⊢
          clear hys hM
          have hMw : IntKind.i64.wrap ((M : Int) - 1) = (M : Int) - 1 := IntWalk.i64_in _ (by omega)
          obtain ⟨Z, hZ⟩ : ∃ Z : Nat → List Int, Z = fun j => ys.reverse.take j := ⟨_, rfl⟩
          have HZ := Lib.hid hZ
          clear hZ
          have HE0 := Lib.hid (show GrowAt w6 (w6.alloc (.cells #[] 5)) 5 (.slice (some ⟨w6.heap.size, 0, none⟩) 0 0) 0 ((Z 0).map (Value.int .u8)) by rw [HZ.out]; exact GrowAt.start w6 5)
          go_wp2_with fail
          go_loopw [7, 6] (fun i v wx => ∃ (j : Nat) (b : Option Addr) (q : Nat), j ≤ M ∧ i = .int .i64 ((M : Int) - 1 - (j : Int)) ∧ v = .slice b j q ∧ Hid (GrowAt w6 wx 5 (.slice b j q) j ((Z j).map (Value.int .u8)))) (fun i _ _ => (intOf i + 1).toNat)
          case atStart => exact ⟨0, _, _, Nat.zero_le _, by simp, rfl, HE0⟩
          case round =>
            clear HE0
            obtain ⟨j, b, q, hj, rfl, rfl, HE⟩ := hrel
            by_cases hjM : j < M
            · obtain ⟨k, hk⟩ : ∃ k : Nat, (M : Int) - 1 - (j : Int) = (k : Int) := ⟨M - 1 - j, by omega⟩
              have hkM : k < M := by omega
              have hk0 : (0 : Int) ≤ (k : Int) := by omega
              have hk1 : (k : Int) < (M : Int) := by omega
              have hkw : IntKind.i64.wrap ((k : Int) - 1) = (k : Int) - 1 := IntWalk.i64_in _ (by omega)
              obtain ⟨g6, rfl⟩ : ∃ g, a6 = some ⟨g, 0, none⟩ := by
                rcases HG3.out.1.2 with ⟨e, h⟩ | ⟨g, c, cur, e, _⟩
                · omega
                · injection e with e1 _ _; exact ⟨g, e1⟩
              have cc := HG3.out.1.cellAt k (by omega)
              obtain ⟨z, hz⟩ : ∃ z, ys.getD k 0 = z := ⟨_, rfl⟩
              have hkl : k < ys.length := by rw [HD2.out.2]; exact hkM
              have hk2 : (ys.map (Value.int .u8))[k]? = some (.int .u8 z) := by rw [← hz]; simp [List.getD, List.getElem?_eq_getElem hkl]
              rw [hk2] at cc
              have cz : wr.cell? ⟨g6, k, none⟩ = some (.int .u8 z) := (HE.out.2.cell (p := ⟨g6, k, none⟩) (World.block_lt_of_cell? w6 _ cc)).trans cc
              have HP := Lib.hid (show Z j ++ [z] = Z (j + 1) by
                have hl := HD2.out.2
                rw [HZ.out]
                show ys.reverse.take j ++ [z] = ys.reverse.take (j + 1)
                rw [take_snoc _ _ (by rw [List.length_reverse]; omega)]
                congr 2
                rw [← hz, List.getD, List.getD, List.getElem?_reverse (by omega)]
                congr 2
                omega)
              have HK := Lib.hid hk
              rw [hk]
              clear cc hz hk hkl hk2
              have HOW := Lib.hid (HE.out.alloc (.cells #[.int .u8 z] 5)).1
              have hsz := HE.out.2.size
              go_wp2_with (at_builtin; refine wpList_ap1 rfl (.tmp 41) (.tmp 46) 28 rfl w6.heap.size 5 (.int .u8 0) 1 Tryd.underlying28 Tryd.infoB9d rfl _ j _ rfl HOW.out _ (.int .u8 z) rfl (by go_simp) rfl (by omega) (by omega) (by simp only [alloc_size]; omega) ?_)
              intro v' w7 hown hgrow _
              obtain ⟨b7, q7, rfl⟩ := own_form hown
              have HE3 := Lib.hid (show GrowAt w6 w7 5 (.slice b7 (j + 1) q7) (j + 1) ((Z (j + 1)).map (Value.int .u8)) by
                rw [← HP.out, List.map_append]
                exact (HE.out.alloc _).push hown hgrow)
              clear hown hgrow HOW HE
              go_wp2_with fail
              go_roundw
              case rel => exact ⟨j + 1, b7, q7, by omega, by have := HK.out; go_num, rfl, HE3⟩
              case measure => simp [intOf] <;> omega
            · obtain rfl : j = M := by omega
              have hn0 : ¬ (0 : Int) ≤ (j : Int) - 1 - (j : Int) := by omega
              have hc0 : (convert 28 9 (.slice b j q)).run Tryd.prog wr = .ok (.string (strOfNums (Z j))) wr := conv_own (P := Tryd.prog) 28 9 Tryd.underlying28 Tryd.underlying5 Tryd.underlying9 (w := wr) HE.out.1
              have HR := Lib.hid (show strOfNums (Z j) = itB n by rw [← itB_nums, HD2.out.1, HZ.out]; show strOfNums (ys.reverse.take j) = _; rw [List.take_of_length_le (by rw [List.length_reverse, HD2.out.2]; exact Nat.le_refl _)])
              rw [HR.out] at hc0
              go_wp2_with fail
              go_ret
              exact ⟨rfl, bthen HG3.out.2 HE.out.2⟩
        · have HD2 := Lib.hid (show decN n = xs.reverse ∧ xs.length = m from ⟨by rw [HD.out, if_neg hneg, List.append_nil], HL.out⟩)
          have HG3 := HG
          have hM20 : m ≤ 20 := by omega
          clear HD HL HG
          obtain ⟨ys, hys⟩ : ∃ ys, ys = xs := ⟨_, rfl⟩
          obtain ⟨M, hM⟩ : ∃ M, M = m := ⟨_, rfl⟩
          obtain ⟨a6, ha6⟩ : ∃ a6, a6 = a := ⟨_, rfl⟩
          obtain ⟨c6, hc6⟩ : ∃ c6, c6 = c := ⟨_, rfl⟩
          obtain ⟨w6, hw6⟩ : ∃ w6, w6 = wr := ⟨_, rfl⟩
          subst hys hM ha6 hc6 hw6
          have hMw : IntKind.i64.wrap ((M : Int) - 1) = (M : Int) - 1 := IntWalk.i64_in _ (by omega)
          obtain ⟨Z, hZ⟩ : ∃ Z : Nat → List Int, Z = fun j => ys.reverse.take j := ⟨_, rfl⟩
          have HZ := Lib.hid hZ
          clear hZ
          have HE0 := Lib.hid (show GrowAt w6 (w6.alloc (.cells #[] 5)) 5 (.slice (some ⟨w6.heap.size, 0, none⟩) 0 0) 0 ((Z 0).map (Value.int .u8)) by rw [HZ.out]; exact GrowAt.start w6 5)
          go_wp2_with fail
          go_loopw [7, 6] (fun i v wx => ∃ (j : Nat) (b : Option Addr) (q : Nat), j ≤ M ∧ i = .int .i64 ((M : Int) - 1 - (j : Int)) ∧ v = .slice b j q ∧ Hid (GrowAt w6 wx 5 (.slice b j q) j ((Z j).map (Value.int .u8)))) (fun i _ _ => (intOf i + 1).toNat)
          case atStart => exact ⟨0, _, _, Nat.zero_le _, by simp, rfl, HE0⟩
          case round =>
            clear HE0
            obtain ⟨j, b, q, hj, rfl, rfl, HE⟩ := hrel
            by_cases hjM : j < M
            · obtain ⟨k, hk⟩ : ∃ k : Nat, (M : Int) - 1 - (j : Int) = (k : Int) := ⟨M - 1 - j, by omega⟩
              have hkM : k < M := by omega
              have hk0 : (0 : Int) ≤ (k : Int) := by omega
              have hk1 : (k : Int) < (M : Int) := by omega
              have hkw : IntKind.i64.wrap ((k : Int) - 1) = (k : Int) - 1 := IntWalk.i64_in _ (by omega)
              obtain ⟨g6, rfl⟩ : ∃ g, a6 = some ⟨g, 0, none⟩ := by
                rcases HG3.out.1.2 with ⟨e, h⟩ | ⟨g, c, cur, e, _⟩
                · omega
                · injection e with e1 _ _; exact ⟨g, e1⟩
              have cc := HG3.out.1.cellAt k (by omega)
              obtain ⟨z, hz⟩ : ∃ z, ys.getD k 0 = z := ⟨_, rfl⟩
              have hkl : k < ys.length := by rw [HD2.out.2]; exact hkM
              have hk2 : (ys.map (Value.int .u8))[k]? = some (.int .u8 z) := by rw [← hz]; simp [List.getD, List.getElem?_eq_getElem hkl]
              rw [hk2] at cc
              have cz : wr.cell? ⟨g6, k, none⟩ = some (.int .u8 z) := (HE.out.2.cell (p := ⟨g6, k, none⟩) (World.block_lt_of_cell? w6 _ cc)).trans cc
              have HP := Lib.hid (show Z j ++ [z] = Z (j + 1) by
                have hl := HD2.out.2
                rw [HZ.out]
                show ys.reverse.take j ++ [z] = ys.reverse.take (j + 1)
                rw [take_snoc _ _ (by rw [List.length_reverse]; omega)]
                congr 2
                rw [← hz, List.getD, List.getD, List.getElem?_reverse (by omega)]
                congr 2
                omega)
              have HK := Lib.hid hk
              rw [hk]
              clear cc hz hk hkl hk2
              have HOW := Lib.hid (HE.out.alloc (.cells #[.int .u8 z] 5)).1
              have hsz := HE.out.2.size
              go_wp2_with (at_builtin; refine wpList_ap1 rfl (.tmp 41) (.tmp 46) 28 rfl w6.heap.size 5 (.int .u8 0) 1 Tryd.underlying28 Tryd.infoB9d rfl _ j _ rfl HOW.out _ (.int .u8 z) rfl (by go_simp) rfl (by omega) (by omega) (by simp only [alloc_size]; omega) ?_)
              intro v' w7 hown hgrow _
              obtain ⟨b7, q7, rfl⟩ := own_form hown
              have HE3 := Lib.hid (show GrowAt w6 w7 5 (.slice b7 (j + 1) q7) (j + 1) ((Z (j + 1)).map (Value.int .u8)) by
                rw [← HP.out, List.map_append]
                exact (HE.out.alloc _).push hown hgrow)
              clear hown hgrow HOW HE
              go_wp2_with fail
              go_roundw
              case rel => exact ⟨j + 1, b7, q7, by omega, by have := HK.out; go_num, rfl, HE3⟩
              case measure => simp [intOf] <;> omega
            · obtain rfl : j = M := by omega
              have hn0 : ¬ (0 : Int) ≤ (j : Int) - 1 - (j : Int) := by omega
              have hc0 : (convert 28 9 (.slice b j q)).run Tryd.prog wr = .ok (.string (strOfNums (Z j))) wr := conv_own (P := Tryd.prog) 28 9 Tryd.underlying28 Tryd.underlying5 Tryd.underlying9 (w := wr) HE.out.1
              have HR := Lib.hid (show strOfNums (Z j) = itB n by rw [← itB_nums, HD2.out.1, HZ.out]; show strOfNums (ys.reverse.take j) = _; rw [List.take_of_length_le (by rw [List.length_reverse, HD2.out.2]; exact Nat.le_refl _)])
              rw [HR.out] at hc0
              go_wp2_with fail
              go_ret
              exact ⟨rfl, bthen HG3.out.2 HE.out.2⟩
      · obtain ⟨d, r2, x, hd, hr2, hx, hd1, hd2, hst⟩ := HS.out.2.step hr0
        have hr2b : -9223372036854775808 ≤ r2 ∧ r2 ≤ 9223372036854775807 ∧ r2.natAbs < r.natAbs := by
          have e : r2.natAbs = r.natAbs / 10 := by rw [← hr2, Int.natAbs_tdiv]; rfl
          omega
        have hrw : IntKind.i64.wrap r2 = r2 := IntWalk.i64_in _ (by omega)
        have HL2 := Lib.hid (show (xs ++ [48 + (x : Int)]).length = m + 1 ∧ DecS n r2 (u / 10) (xs ++ [48 + (x : Int)]) from ⟨by rw [List.length_append, HS.out.1]; rfl, hst⟩)
        have hm2 : m + 1 ≤ 19 := by
          have := hst.len hn19
          rw [HL2.out.1] at this; exact this
        have hu8 : IntKind.u8.wrap ((48 : Int) + (x : Int)) = (48 : Int) + (x : Int) := by
          show (48 + (x : Int)) % 256 = _
          omega
        have hsz := HG.out.2.size
        have HOW := Lib.hid (HG.out.alloc (.cells #[.int .u8 ((48 : Int) + (x : Int))] 5)).1
        clear hst HS
        by_cases hdn : d < 0
        · have hdx := hd1 hdn
          have hneg : IntKind.i64.wrap (-d) = (x : Int) := by rw [hdx]; exact IntWalk.i64_in _ (by omega)
          clear hd1 hd2
          go_wp2_with (at_builtin; refine wpList_ap1 rfl (.tmp 22) (.tmp 26) 28 rfl w.heap.size 5 (.int .u8 0) 1 Tryd.underlying28 Tryd.infoB9d rfl _ m _ rfl HOW.out _ (.int .u8 ((48 : Int) + (x : Int))) rfl (by go_simp) rfl (by omega) (by omega) (by simp only [alloc_size]; omega) ?_)
          intro v' w6 hown hgrow _
          obtain ⟨a6, c6, rfl⟩ := own_form hown
          have HG3 := Lib.hid (show GrowAt w w6 5 (.slice a6 (m + 1) c6) (m + 1) ((xs ++ [48 + (x : Int)]).map (Value.int .u8)) by
            rw [List.map_append]
            exact (HG.out.alloc _).push hown hgrow)
          clear hown hgrow HOW HG
          go_wp2_with fail
          go_roundw
          case rel => exact ⟨r2, u / 10, m + 1, a6, c6, xs ++ [48 + (x : Int)], by go_num, rfl, hr2b.1, hr2b.2.1, hm2, HL2, HG3⟩
          case measure => simp [intOf] <;> omega
        · obtain rfl := hd2 hdn
          clear hd1 hd2
          go_wp2_with (at_builtin; refine wpList_ap1 rfl (.tmp 22) (.tmp 26) 28 rfl w.heap.size 5 (.int .u8 0) 1 Tryd.underlying28 Tryd.infoB9d rfl _ m _ rfl HOW.out _ (.int .u8 ((48 : Int) + (x : Int))) rfl (by go_simp) rfl (by omega) (by omega) (by simp only [alloc_size]; omega) ?_)
          intro v' w6 hown hgrow _
          obtain ⟨a6, c6, rfl⟩ := own_form hown
          have HG3 := Lib.hid (show GrowAt w w6 5 (.slice a6 (m + 1) c6) (m + 1) ((xs ++ [48 + (x : Int)]).map (Value.int .u8)) by
            rw [List.map_append]
            exact (HG.out.alloc _).push hown hgrow)
          clear hown hgrow HOW HG
          go_wp2_with fail
          go_roundw
          case rel => exact ⟨r2, u / 10, m + 1, a6, c6, xs ++ [48 + (x : Int)], by go_num, rfl, hr2b.1, hr2b.2.1, hm2, HL2, HG3⟩
          case measure => simp [intOf] <;> omega
end Go.Proofs.YthjndfbjalkckaaDoor

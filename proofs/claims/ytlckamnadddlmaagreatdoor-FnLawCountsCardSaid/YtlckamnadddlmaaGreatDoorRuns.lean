import Derived.Test.YtlckamnadddlmaaGreatDoorInputs
import Derived.Test.YtlckamnadddlmaaGreatDoorOwnX
import Derived.Deep.LoopGhost
/- The runs of bits and the longest one: the law FnExactLongestRun. Condition: the text is shorter than the model's greatest length. -/
namespace Go.Proofs.YtlckamnadddlmaaGreatDoor
open Go.RowKit
set_option linter.unusedVariables false

/-- The closed runs and the open one behind m + 1 places, where d tells at which places a run begins. -/
def rnS (d : Nat → Bool) : Nat → List Int × Int
  | 0 => ([], 1)
  | m + 1 => if d (m + 1) then ((rnS d m).1 ++ [(rnS d m).2], 1) else ((rnS d m).1, (rnS d m).2 + 1)
def rnL (d : Nat → Bool) : Nat → List Int
  | 0 => []
  | m + 1 => (rnS d m).1 ++ [(rnS d m).2]
theorem rnS_bd (d : Nat → Bool) : ∀ m, (1 ≤ (rnS d m).2 ∧ (rnS d m).2 ≤ m + 1) ∧ (∀ z ∈ (rnS d m).1, 1 ≤ z ∧ z ≤ m + 1) ∧ (rnS d m).1.length ≤ m
  | 0 => ⟨⟨by simp [rnS], by simp [rnS]⟩, (fun z hz => by cases hz), Nat.le_refl _⟩
  | m + 1 => by
    obtain ⟨h1, h2, h3⟩ := rnS_bd d m
    rw [rnS]
    split
    · refine ⟨by simp; omega, fun z hz => ?_, by simp; omega⟩
      simp only at hz
      rcases List.mem_append.1 hz with hz | hz
      · have := h2 z hz; push_cast; omega
      · rw [List.mem_singleton] at hz; subst hz; push_cast; omega
    · refine ⟨by simp only; push_cast; omega, fun z hz => ?_, by simp only; omega⟩
      have := h2 z hz
      push_cast; omega
theorem rnL_bd (d : Nat → Bool) (m : Nat) : (∀ z ∈ rnL d m, 1 ≤ z ∧ z ≤ m) ∧ (rnL d m).length ≤ m := by
  cases m with
  | zero => exact ⟨fun z hz => (by cases hz), Nat.le_refl _⟩
  | succ m =>
    obtain ⟨h1, h2, h3⟩ := rnS_bd d m
    refine ⟨fun z hz => ?_, by rw [rnL, List.length_append]; simp; omega⟩
    rw [rnL] at hz
    rcases List.mem_append.1 hz with hz | hz
    · have := h2 z hz; push_cast; omega
    · rw [List.mem_singleton] at hz; subst hz; push_cast; omega
/-- At a place a run begins. -/
def begS (s : ByteArray) (i : Nat) : Bool := by8 s (i - 1) != by8 s i
def byR (s : ByteArray) (m : Nat) : Int := ((by8 s m).toNat : Int)
theorem begS_int (s : ByteArray) (q : Nat) : (byR s q != byR s (q + 1)) = begS s (q + 1) := by
  unfold begS byR
  rw [Bool.eq_iff_iff]
  simp only [bne_iff_ne, ne_eq, Nat.add_sub_cancel]
  refine not_congr ⟨fun h => UInt8.toNat_inj.1 (by omega), fun h => by rw [h]⟩
theorem GrowAt.set {w0 wr : World} {E : TypeId} {g n c : Nat} {xs : List Value} (h : GrowAt w0 wr E (.slice (some ⟨g, 0, none⟩) n c) n xs) (j : Nat) (u : Value) : GrowAt w0 (wr.setCell ⟨g, j, none⟩ u) E (.slice (some ⟨g, 0, none⟩) n c) n (xs.set j u) := by
  have hst := h.1.stored j u
  exact ⟨hst.1, below_grown h.2 h.1 (by simpa [Value.ownBlock] using hst.2) h.2.size⟩
theorem own_some' {w : World} {B E : Nat} {v : Value} {n : Nat} {xs : List Value} (h : w.ownsRow B E 1 v n xs) (hn : 0 < n) : ∃ g c, v = .slice (some ⟨g, 0, none⟩) n c := by
  rcases h.2 with ⟨e, h0⟩ | ⟨g, c, cur, e, _⟩
  · omega
  · exact ⟨g, c, e⟩
theorem push_i64 {w wr : World} {v : Value} {n : Nat} {xs : List Int} {z : Int} {v' : Value} {w6 : World} (h : GrowAt w wr 2 v n (xs.map (Value.int .i64))) (hown : w6.ownsRow w.heap.size 2 1 v' (n + 1) (xs.map (Value.int .i64) ++ [.int .i64 z])) (hg : wr.grownBy w6 v.ownBlock) : GrowAt w w6 2 v' (n + 1) ((xs ++ [z]).map (Value.int .i64)) := by
  rw [List.map_append]
  exact h.push hown hg
/-- What stands at the head of a round: the runs so far. -/
def RnI (w wr : World) (d : Nat → Bool) (m : Nat) (v : Value) : Prop := GrowAt w wr 2 v (rnL d m).length ((rnL d m).map (Value.int .i64))
/-- A new run: a zero is laid, then counted up. -/
theorem RnI.new {w wr : World} {d : Nat → Bool} {m g c : Nat} {xs : List Int} (h : GrowAt w wr 2 (.slice (some ⟨g, 0, none⟩) (xs.length + 1) c) (xs.length + 1) ((xs ++ [0]).map (Value.int .i64))) (e : rnL d (m + 1) = xs ++ [1]) :
    RnI w (wr.setCell ⟨g, xs.length, none⟩ (.int .i64 1)) d (m + 1) (.slice (some ⟨g, 0, none⟩) (xs.length + 1) c) := by
  have := h.set xs.length (.int .i64 1)
  unfold RnI
  rw [e]
  simpa using this
theorem RnI.old {w wr : World} {d : Nat → Bool} {m g c : Nat} {ys : List Int} {z : Int} (h : GrowAt w wr 2 (.slice (some ⟨g, 0, none⟩) (ys.length + 1) c) (ys.length + 1) ((ys ++ [z]).map (Value.int .i64))) (e : rnL d (m + 1) = ys ++ [z + 1]) :
    RnI w (wr.setCell ⟨g, ys.length, none⟩ (.int .i64 (z + 1))) d (m + 1) (.slice (some ⟨g, 0, none⟩) (ys.length + 1) c) := by
  have := h.set ys.length (.int .i64 (z + 1))
  unfold RnI
  rw [e]
  simpa using this
theorem RnI.reads {w wr : World} {g n c : Nat} {ys : List Int} {z : Int} (h : GrowAt w wr 2 (.slice (some ⟨g, 0, none⟩) n c) n ((ys ++ [z]).map (Value.int .i64))) : wr.cell? ⟨g, ys.length, none⟩ = some (.int .i64 z) ∧ wr.frozen? ⟨g, ys.length, none⟩ = false := by
  have hl : (ys ++ [z]).length = n := by simpa using h.1.1
  refine ⟨?_, h.1.frozenAt _⟩
  rw [h.1.cellAt ys.length (by rw [← hl]; simp)]
  simp
theorem cell_newN (w : World) (n : Nat) (v : Value) (E : TypeId) : ((w.drewN n).alloc (.cells #[v] E)).cell? ⟨w.heap.size, 0, none⟩ = some v := by
  have h : ((w.drewN n).alloc (.cells #[v] E)).heap[w.heap.size]? = some (.cells #[v] E) := heap_at_new (w.drewN n) _
  unfold World.cell?
  simp only [Option.isSome_none, Bool.false_eq_true, if_false]
  rw [h]
  rfl
set_option maxRecDepth 20000 in
set_option maxHeartbeats 3200000 in
theorem l01Runs_any (s : ByteArray) (w : World) (hs : s.size ≤ 400) : Calls Tryz.prog 39 #[.string s] w (RetInts w (rnL (begS s) s.size)) := by
  have HBeg := Lib.hid (begS_int s)
  obtain ⟨d, hd⟩ : ∃ d, begS s = d := ⟨_, rfl⟩
  rw [hd] at HBeg ⊢
  clear hd
  have HG : Hid (RnI w (w.alloc (.cells #[] 2)) d 0 (.slice (some ⟨w.heap.size, 0, none⟩) 0 0)) := Lib.hid (GrowAt.start w 2)
  go_enter Tryz.func39, Tryz.ntmps39
  go_wp2
  go_loopw [4, 3] (fun i v wr => ∃ m : Nat, m ≤ s.size ∧ i = .int .i64 (m : Nat) ∧ Hid (RnI w wr d m v)) (fun i _ _ => s.size - (intOf i).toNat)
  case atStart => exact ⟨0, Nat.zero_le _, rfl, HG⟩
  case round =>
    clear HG
    obtain ⟨m, hm, rfl, HG⟩ := hrel
    by_cases hlt : m < s.size
    · have hmi : (m:Int) < (s.size:Int) := by omega
      have hm0 : (0:Int) ≤ (m:Int) := by omega
      have hln := (rnL_bd d m).2
      rcases Nat.eq_zero_or_pos m with hz | hpos
      · subst hz
        have HE := Lib.hid (show rnL d (0 + 1) = [] ++ [1] from rfl)
        have hG : GrowAt w wr 2 u3 0 (([] : List Int).map (Value.int .i64)) := HG.out
        have HG0 := Lib.hid hG
        clear hG hln
        go_wp2_with fail
        go_quiet (fail)
        go_wp2_with (at_builtin; refine wpList_ap1 rfl (.tmp 24) (.tmp 25) 26 rfl w.heap.size 2 (.int .i64 0) 8 Tryz.underlying26 Tryz.infoI rfl _ 0 _ rfl ((HG0.out.drewN _).alloc (.cells #[.int .i64 0] 2)).1 _ (.int .i64 0) rfl (cell_newN _ _ _ _) rfl (by omega) (by omega) ((HG0.out.drewN _).alloc (.cells #[.int .i64 0] 2)).2.size ?_)
        intro v' w6 hown hgrow _
        have hG2 := push_i64 ((HG0.out.drewN _).alloc _) hown hgrow
        obtain ⟨g, c, rfl⟩ := own_some' hown (by omega)
        obtain ⟨q0, f0⟩ := RnI.reads (ys := []) hG2
        have HN := Lib.hid (RnI.new (xs := []) hG2 HE.out)
        simp only [List.length_nil] at q0 f0
        clear hown hgrow hG2
        go_wp2
        go_roundw
        case rel => exact ⟨0 + 1, by omega, by go_num, HN⟩
        case measure => simp [intOf]; omega
      · obtain ⟨q, rfl⟩ : ∃ q, m = q + 1 := ⟨m - 1, by omega⟩
        have hqs : q < s.size := by omega
        have hq0 : (0:Int) ≤ (q:Int) := by omega
        have hqi : (q:Int) < (s.size:Int) := by omega
        have hqw : IntKind.i64.wrap ((q:Int) + 1 - 1) = (q:Int) := by rw [Int.add_sub_cancel]; exact IntWalk.i64_in _ (by omega)
        have hqw2 : IntKind.i64.wrap (q:Int) = (q:Int) := IntWalk.i64_in _ (by omega)
        have hne : ((q:Int) + 1 == 0) = false := by rw [beq_eq_false_iff_ne]; omega
        have hb := HBeg.out q
        rw [bne_comm] at hb
        have e1 : (((s[q]'hqs).toNat : Nat) : Int) = byR s q := by rw [get_by8]; rfl
        have e2 : (((s[q + 1]'hlt).toNat : Nat) : Int) = byR s (q + 1) := by rw [get_by8]; rfl
        obtain ⟨x, hx⟩ : ∃ x, byR s q = x := ⟨_, rfl⟩
        obtain ⟨y, hy⟩ : ∃ y, byR s (q + 1) = y := ⟨_, rfl⟩
        rw [hx] at hb e1
        rw [hy] at hb e2
        clear hx hy
        have hst : rnL d (q + 1 + 1) = (rnS d (q + 1)).1 ++ [(rnS d (q + 1)).2] := rfl
        have hst2 : rnS d (q + 1) = if d (q + 1) then ((rnS d q).1 ++ [(rnS d q).2], 1) else ((rnS d q).1, (rnS d q).2 + 1) := rfl
        have hL : rnL d (q + 1) = (rnS d q).1 ++ [(rnS d q).2] := rfl
        obtain ⟨hz1, _, hyl⟩ := rnS_bd d q
        rw [hst2] at hst
        have hG := HG.out
        unfold RnI at hG
        rw [hL] at hG
        obtain ⟨ys, hys⟩ : ∃ ys, (rnS d q).1 = ys := ⟨_, rfl⟩
        obtain ⟨z, hz⟩ : ∃ z, (rnS d q).2 = z := ⟨_, rfl⟩
        rw [hys, hz] at hst hG
        rw [hz] at hz1
        rw [hys] at hyl
        obtain ⟨hz2, hz3⟩ := hz1
        rw [List.length_append] at hG
        cases hd : d (q + 1) with
        | true =>
          rw [hd] at hst hb
          have hE : rnL d (q + 1 + 1) = (ys ++ [z]) ++ [1] := by rw [hst]; rfl
          have hl : (ys ++ [z]).length = ys.length + 1 := by simp
          obtain ⟨zs, hzs⟩ : ∃ zs, ys ++ [z] = zs := ⟨_, rfl⟩
          rw [hzs] at hE hl hG
          have HE := Lib.hid hE
          have HL := Lib.hid hl
          have HG0 : Hid (GrowAt w wr 2 u3 (ys.length + 1) (zs.map (Value.int .i64))) := Lib.hid hG
          clear hE hl hzs
          clear hG hst hst2 hL hys hz hd hln hpos HG
          go_wp2_with fail
          go_quiet (fail)
          go_wp2_with (at_builtin; refine wpList_ap1 rfl (.tmp 24) (.tmp 25) 26 rfl w.heap.size 2 (.int .i64 0) 8 Tryz.underlying26 Tryz.infoI rfl _ (ys.length + 1) _ rfl ((HG0.out.drewN _).alloc (.cells #[.int .i64 0] 2)).1 _ (.int .i64 0) rfl (cell_newN _ _ _ _) rfl (by omega) (by omega) ((HG0.out.drewN _).alloc (.cells #[.int .i64 0] 2)).2.size ?_)
          intro v' w6 hown hgrow _
          have hG2 := push_i64 ((HG0.out.drewN _).alloc _) hown hgrow
          obtain ⟨g, c, rfl⟩ := own_some' hown (by omega)
          obtain ⟨q0, f0⟩ := RnI.reads (ys := zs) hG2
          have hN := RnI.new (xs := zs) (by rw [HL.out]; exact hG2) HE.out
          rw [HL.out] at q0 f0 hN
          have HN := Lib.hid hN
          clear hown hgrow hG2 hN
          go_wp2
          go_roundw
          case rel => exact ⟨q + 1 + 1, by omega, by go_num, HN⟩
          case measure => simp [intOf]; omega
        | false =>
          rw [hd] at hst hb
          have HE : Hid (rnL d (q + 1 + 1) = ys ++ [z + 1]) := Lib.hid (by rw [hst]; rfl)
          obtain ⟨g, c, rfl⟩ := own_some' hG.1 (by simp)
          obtain ⟨q0, f0⟩ := RnI.reads hG
          have HN := Lib.hid (fun nq => RnI.old (hG.drewN nq) HE.out)
          have hG0 := Lib.hid hG
          have hl1 : (ys.length : Int) + 1 - 1 = (ys.length : Int) := by omega
          clear hG hst hst2 hL hys hz hd hln hpos HG
          simp only [List.length_singleton] at *
          go_wp2_with fail
          go_quiet (fail)
          go_wp2
          go_roundw
          case rel => exact ⟨q + 1 + 1, by omega, by go_num, Lib.hid (HN.out _)⟩
          case measure => simp [intOf]; omega
    · obtain rfl : m = s.size := by omega
      have HR : Hid (RetInts w (rnL d s.size) (.returned u3) wr) := Lib.hid (RetInts.of_grow HG.out)
      go_wp2
      go_ret
      exact HR.out
/-- The greatest of the first m numbers, and 0. -/
def mxF (L : List Int) : Nat → Int
  | 0 => 0
  | m + 1 => max (mxF L m) (L.getD m 0)
def lgV (s : ByteArray) : Int := if isB s then mxF (rnL (begS s) s.size) (rnL (begS s) s.size).length else 0
theorem mxF_bd {L : List Int} {n : Int} (hn : 0 ≤ n) (h : ∀ j, L.getD j 0 ≤ n) : ∀ m, 0 ≤ mxF L m ∧ mxF L m ≤ n
  | 0 => ⟨Int.le_refl _, hn⟩
  | m + 1 => by have := mxF_bd hn h m; have := h m; rw [mxF]; omega
theorem rnL_at (d : Nat → Bool) (m j : Nat) : 0 ≤ (rnL d m).getD j 0 ∧ (rnL d m).getD j 0 ≤ m := by
  by_cases hj : j < (rnL d m).length
  · rw [getD_eq _ _ hj]
    have := (rnL_bd d m).1 _ (List.getElem_mem hj)
    omega
  · simp [List.getD, List.getElem?_eq_none (Nat.le_of_not_lt hj)]
def RetLg (w : World) (s : ByteArray) (e : Ending) (w' : World) : Prop := e = .returned (.tuple #[.int .i64 (lgV s), .bool (isB s)]) ∧ Below w.heap.size w w'
set_option maxRecDepth 20000 in
set_option maxHeartbeats 1600000 in
theorem l05Most_any (s : ByteArray) (w : World) (hs : s.size ≤ 400) : Calls Tryz.prog 40 #[.string s] w fun e w' => e = .returned (.int .i64 (mxF (rnL (begS s) s.size) (rnL (begS s) s.size).length)) ∧ Below w.heap.size w w' := by
  have HR := Lib.hid (l01Runs_any s w hs)
  have hbd := rnL_at (begS s) s.size
  have hln := (rnL_bd (begS s) s.size).2
  obtain ⟨L, hL⟩ : ∃ L, rnL (begS s) s.size = L := ⟨_, rfl⟩
  rw [hL] at HR hbd hln ⊢
  obtain ⟨n, hn⟩ : ∃ n, L.length = n := ⟨_, rfl⟩
  rw [hn] at hln ⊢
  have HN := Lib.hid hn
  clear hL hbd hn
  obtain ⟨V, hV⟩ : ∃ V, mxF L n = V := ⟨_, rfl⟩
  rw [hV]
  have HV := Lib.hid hV
  clear hV
  go_enter Tryz.func40, Tryz.ntmps40
  go_wp2_with fail
  refine HR.out.mono ?_
  rintro e w1 ⟨a, c, rfl, hown, hb1⟩
  rw [HN.out] at hown ⊢
  have HL := Lib.hid (IsInts.of_own hown)
  have Hb1 := Lib.hid hb1
  clear hown hb1 HR
  go_wp2
  go_loopw [5, 4] (fun i v wr => ∃ (m : Nat) (S : Int), m ≤ n ∧ i = .int .i64 (m : Nat) ∧ v = .int .i64 S ∧ Hid (mxF L m = S) ∧ wr = w1) (fun i _ _ => n - (intOf i).toNat)
  case atStart => exact ⟨0, 0, Nat.zero_le _, rfl, rfl, Lib.hid rfl, rfl⟩
  case round =>
    obtain ⟨m, S, hm, rfl, rfl, HS, rfl⟩ := hrel
    by_cases hlt : m < n
    · obtain ⟨b, off, ha, hc⟩ := HL.out.at hlt
      subst ha
      have hm0 : (0:Int) ≤ (m:Int) := by omega
      have hmi : (m:Int) < (n:Int) := by omega
      have hst : mxF L (m + 1) = max (mxF L m) (L.getD m 0) := rfl
      rw [HS.out] at hst
      obtain ⟨z, hz⟩ : ∃ z, L.getD m 0 = z := ⟨_, rfl⟩
      rw [hz] at hst hc
      have HM := Lib.hid (fun w => l00Max_any S z w)
      have hif : (if z < S then S else z) = max S z := by omega
      rw [hif] at HM
      obtain ⟨S2, hS2⟩ : ∃ S2, max S z = S2 := ⟨_, rfl⟩
      rw [hS2] at hst HM
      have HS2 := Lib.hid hst
      clear hst hz hif hS2
      go_wp2_with fail
      refine (HM.out _).mono ?_
      rintro e w' ⟨rfl, rfl⟩
      go_wp2
      go_roundw
      case rel => exact ⟨m + 1, S2, by omega, by go_num, rfl, HS2, trivial⟩
      case measure => simp [intOf]; omega
    · obtain rfl : m = n := by omega
      obtain rfl : S = V := by rw [← HS.out, HV.out]
      go_wp2
      go_ret
      exact ⟨rfl, Hb1.out⟩
theorem specLongestRun_any (s : ByteArray) (w : World) (hs : s.size ≤ maxLen) : Calls Tryz.prog 15 #[.string s] w (RetLg w s) := by
  cases h : isB s with
  | false =>
    have HV := Lib.hid (And.intro h (show lgV s = 0 by unfold lgV; rw [h]; rfl))
    clear h
    go_enter Tryz.func15, Tryz.ntmps15
    go_wp2_with fail
    refine (l01Bits_any s _ hs).mono ?_
    rintro e w1 ⟨rfl, rfl⟩
    rw [HV.out.1]
    go_wp2_with fail
    go_ret2
    exact ⟨by rw [HV.out.1, HV.out.2]; rfl, Below.refl _ _⟩
  | true =>
    have hs4 := isB_size h
    have hv : lgV s = mxF (rnL (begS s) s.size) (rnL (begS s) s.size).length := by unfold lgV; rw [h]; rfl
    have HC := Lib.hid (fun w => l05Most_any s w hs4)
    rw [← hv] at HC
    have HV := Lib.hid h
    clear h hv
    go_enter Tryz.func15, Tryz.ntmps15
    go_wp2_with fail
    refine (l01Bits_any s _ hs).mono ?_
    rintro e w1 ⟨rfl, rfl⟩
    rw [HV.out]
    go_wp2_with fail
    refine (HC.out _).mono ?_
    rintro e w2 ⟨rfl, hb2⟩
    go_wp2_with fail
    go_ret2
    exact ⟨by rw [HV.out]; rfl, hb2⟩
end Go.Proofs.YtlckamnadddlmaaGreatDoor

import Derived.Test.YtflgooogiceliaaDoorPairs
/- three -/
namespace Go.Proofs.YtflgooogiceliaaDoor
open Go.RowKit
set_option linter.unusedVariables false
def dfP (f : Nat → Bool) (m : Nat) : List Int := (List.range m).map fun j => if f j then 49 else 48
theorem dfP_succ (f : Nat → Bool) (m : Nat) : dfP f (m + 1) = dfP f m ++ [if f m then 49 else 48] := by simp [dfP, List.range_succ]
theorem dfP_len (f : Nat → Bool) (m : Nat) : (dfP f m).length = m := by simp [dfP]
theorem dfP_ok (f : Nat → Bool) (m : Nat) : numOk (dfP f m) := fun x hx => by
  obtain ⟨j, _, rfl⟩ := List.mem_map.1 hx
  split <;> omega
def dfX (s : ByteArray) : List Int := dfP (frD s) (s.size / 2)
def eqX (s : ByteArray) : List Int := shF (fun j => !frD s j) (frB s) (s.size / 2)
def Ret3S (w : World) (x y z : List Int) (e : Ending) (w' : World) : Prop := e = .returned (.tuple #[.string (strOfNums x), .string (strOfNums y), .string (strOfNums z)]) ∧ Below w.heap.size w w'
/-- The three rows of bytes. -/
def P3 (w wr : World) (g5 c5 g6 c6 g7 c7 : Nat) (x5 x6 x7 : List Int) : Prop := OwnAt w wr [(g5, rowO 5 c5 (x5.map (Value.int .u8))), (g6, rowO 5 c6 (x6.map (Value.int .u8))), (g7, rowO 5 c7 (x7.map (Value.int .u8)))]
theorem P3.drewN {w wr : World} {g5 c5 g6 c6 g7 c7 : Nat} {x5 x6 x7 : List Int} (h : P3 w wr g5 c5 g6 c6 g7 c7 x5 x6 x7) (q : Nat) : P3 w (wr.drewN q) g5 c5 g6 c6 g7 c7 x5 x6 x7 := OwnAt.drewN h q
theorem P3.row (i : Nat) {w wr : World} {l : List (Nat × (Obj → Prop))} (h : OwnAt w wr l) {g c : Nat} {xs : List Int} (hi : l[i]? = some (g, rowO 5 c (xs.map (Value.int .u8)))) (o : Obj) : (wr.alloc o).ownsRow w.heap.size 5 1 (.slice (some ⟨g, 0, none⟩) xs.length c) xs.length (xs.map (Value.int .u8)) := by
  have := ((h.1.alloc o).rowAt i hi).1
  rwa [List.length_map] at this
theorem byte_newN (w : World) (n : Nat) (v : Value) (E : TypeId) : ((w.drewN n).alloc (.cells #[v] E)).cell? ⟨w.heap.size, 0, none⟩ = some v := by
  have h : ((w.drewN n).alloc (.cells #[v] E)).heap[w.heap.size]? = some (.cells #[v] E) := heap_at_new (w.drewN n) _
  unfold World.cell?
  simp only [Option.isSome_none, Bool.false_eq_true, if_false]
  rw [h]
  rfl
set_option maxRecDepth 20000 in
set_option maxHeartbeats 3200000 in
theorem l06Pairs_any (s : ByteArray) (w : World) (hs : s.size ≤ 400) : Calls Tryd.prog 83 #[.string s] w (Ret3S w (frX s) (dfX s) (eqX s)) := by
  have hd : ∀ j, frD s j = (byI s (2 * j) != byI s (2 * j + 1)) := fun j => rfl
  have hb : ∀ j, frB s j = byI s (2 * j) := fun j => rfl
  have h5 : frX s = shF (frD s) (frB s) (s.size / 2) := rfl
  have h6 : dfX s = dfP (frD s) (s.size / 2) := rfl
  have h7 : eqX s = shF (fun j => !frD s j) (frB s) (s.size / 2) := rfl
  obtain ⟨f, hf⟩ : ∃ f, frD s = f := ⟨_, rfl⟩
  obtain ⟨bb, hbb⟩ : ∃ bb, frB s = bb := ⟨_, rfl⟩
  obtain ⟨X5, hX5⟩ : ∃ X, frX s = X := ⟨_, rfl⟩
  obtain ⟨X6, hX6⟩ : ∃ X, dfX s = X := ⟨_, rfl⟩
  obtain ⟨X7, hX7⟩ : ∃ X, eqX s = X := ⟨_, rfl⟩
  rw [hX5, hf, hbb] at h5
  rw [hX6, hf] at h6
  rw [hX7, hf, hbb] at h7
  rw [hf] at hd
  rw [hbb] at hb
  rw [hX5, hX6, hX7]
  have HH := Lib.hid (And.intro hd (And.intro hb (And.intro h5 (And.intro h6 h7))))
  have H0 : Hid (P3 w (((w.alloc (.cells #[] 5)).alloc (.cells #[] 5)).alloc (.cells #[] 5)) w.heap.size 0 (w.heap.size + 1) 0 (w.heap.size + 2) 0 [] [] []) := Lib.hid (by
    have e : ∀ w1 : World, rowO 5 0 (([] : List Int).map (Value.int .u8)) (.cells #[] 5) := fun _ => ⟨#[], rfl, rfl, Nat.le_refl _, by simp [maxLen], rfl⟩
    have a1 := (OwnAt.start w).new (e w)
    have a2 := a1.new (e w)
    have a3 := a2.new (e w)
    rw [alloc_size] at a2 a3
    rw [alloc_size] at a3
    exact ⟨a3.1.perm ((List.Perm.swap _ _ _).trans ((List.Perm.cons _ (List.Perm.swap _ _ _)).trans (List.Perm.swap _ _ _))), a3.2⟩)
  clear hd hb h5 h6 h7 hf hbb hX5 hX6 hX7
  go_enter Tryd.func83, Tryd.ntmps83
  go_wp2
  go_loopw [8, 5, 6, 7] (fun i v5 v6 v7 wr => ∃ (m q g5 c5 g6 c6 g7 c7 n5 n7 : Nat) (x5 x6 x7 : List Int), Hid (q = 2 * m) ∧ m ≤ q ∧ q ≤ s.size ∧ i = .int .i64 (q : Nat) ∧ v5 = .slice (some ⟨g5, 0, none⟩) n5 c5 ∧ v6 = .slice (some ⟨g6, 0, none⟩) m c6 ∧ v7 = .slice (some ⟨g7, 0, none⟩) n7 c7 ∧ n5 ≤ m ∧ n7 ≤ m ∧ Hid (x5 = shF f bb m ∧ x5.length = n5 ∧ x6 = dfP f m ∧ x6.length = m ∧ x7 = shF (fun j => !f j) bb m ∧ x7.length = n7) ∧ Hid (P3 w wr g5 c5 g6 c6 g7 c7 x5 x6 x7)) (fun i _ _ _ _ => s.size - (intOf i).toNat)
  case atStart => exact ⟨0, 0, _, 0, _, 0, _, 0, 0, 0, [], [], [], Lib.hid rfl, Nat.le_refl _, Nat.zero_le _, rfl, rfl, rfl, rfl, Nat.le_refl _, Nat.le_refl _, Lib.hid ⟨rfl, rfl, rfl, rfl, rfl, rfl⟩, H0⟩
  case round =>
    clear H0
    obtain ⟨m, q, g5, c5, g6, c6, g7, c7, n5, n7, x5, x6, x7, HQ, hmq, hq, rfl, rfl, rfl, rfl, hn5, hn7, HX, HO⟩ := hrel
    by_cases hlt : q + 1 < s.size
    · have hq0 : (0:Int) ≤ (q:Int) := by omega
      have hqs : q < s.size := by omega
      have hqi : (q:Int) < (s.size:Int) := by omega
      have hqi1 : (q:Int) + 1 < (s.size:Int) := by omega
      have hw1 : IntKind.i64.wrap ((q:Int) + 1) = (q:Int) + 1 := IntWalk.i64_in _ (by omega)
      have e0 := is49 s q hqs
      have e1 := is49 s (q + 1) hlt
      have hd := HH.out.1 m
      have hb := HH.out.2.1 m
      rw [← HQ.out] at hd hb
      have s5 : shF f bb (m + 1) = if f m then shF f bb m ++ [bb m] else shF f bb m := rfl
      have s6 := dfP_succ f m
      have s7 : shF (fun j => !f j) bb (m + 1) = if !f m then shF (fun j => !f j) bb m ++ [bb m] else shF (fun j => !f j) bb m := rfl
      rw [← HX.out.1, hb] at s5
      rw [← HX.out.2.2.1] at s6
      rw [← HX.out.2.2.2.2.1, hb] at s7
      obtain ⟨x, hx⟩ : ∃ x, byI s q = x := ⟨_, rfl⟩
      obtain ⟨y, hy⟩ : ∃ y, byI s (q + 1) = y := ⟨_, rfl⟩
      rw [hx] at e0 hd s5 s7
      rw [hy] at e1 hd
      have hsz := HO.out.2.size
      have HQ2 := Lib.hid (show q + 2 = 2 * (m + 1) by rw [HQ.out]; omega)
      cases hfm : f m with
      | true =>
        rw [hfm] at hd s5 s6 s7
        have hne : (x == y) = false := by have := hd.symm; simpa using this
        have HS := Lib.hid (And.intro s5 (And.intro s6 s7))
        clear hd s5 s6 s7 hx hy hfm hb
        go_wp2_with fail
        go_quiet (fail)
        have HO1 := Lib.hid (HO.out.drewN nq)
        obtain ⟨wq, hwq⟩ : ∃ wq : World, wr.drewN nq = wq := ⟨_, rfl⟩
        rw [hwq] at HO1 ⊢
        clear hwq HO hsz
        have hsz := HO1.out.2.size
        have hrow := P3.row 0 HO1.out rfl (.cells #[.int .u8 x] 5)
        rw [HX.out.2.1] at hrow
        have Hrow := Lib.hid hrow
        clear hrow
        go_wp2_with (at_builtin; refine wpList_ap1 rfl (.tmp 36) (.tmp 40) 37 rfl w.heap.size 5 (.int .u8 0) 1 Tryd.underlying37 Tryd.infoB9 rfl _ n5 _ rfl Hrow.out wq.heap.size (.int .u8 x) rfl (by go_simp) rfl (by omega) (by omega) (by simp only [alloc_size]; omega) ?_)
        intro v' w6 hown hgrow hat
        obtain ⟨g2, c2, rfl, O2⟩ := HO1.out.push 0 rfl hown hgrow hat
        have HO2 : Hid (P3 w w6 g2 c2 g6 c6 g7 c7 (x5 ++ [x]) x6 x7) := Lib.hid (by unfold P3; rw [List.map_append]; exact O2)
        clear hown hgrow hat O2
        have hsz6 := HO2.out.2.size
        have hrow := P3.row 1 HO2.out rfl (.cells #[.int .u8 49] 5)
        rw [HX.out.2.2.2.1] at hrow
        have Hrow2 := Lib.hid hrow
        clear hrow
        go_wp2_with (at_builtin; refine wpList_ap1 rfl (.tmp 42) (.tmp 43) 37 rfl w.heap.size 5 (.int .u8 0) 1 Tryd.underlying37 Tryd.infoB9 rfl _ m _ rfl Hrow2.out w6.heap.size (.int .u8 49) rfl (by go_simp) rfl (by omega) (by omega) (by simp only [alloc_size]; omega) ?_)
        intro v' w7 hown hgrow hat
        obtain ⟨g3, c3, rfl, O3⟩ := HO2.out.push 1 rfl hown hgrow hat
        have HO3 : Hid (P3 w w7 g2 c2 g3 c3 g7 c7 (x5 ++ [x]) (x6 ++ [49]) x7) := Lib.hid (by unfold P3; rw [show List.map (Value.int .u8) (x6 ++ [(49 : Int)]) = x6.map (Value.int .u8) ++ [Value.int .u8 49] from List.map_append]; exact O3)
        have HX2 : Hid (x5 ++ [x] = shF f bb (m + 1) ∧ (x5 ++ [x]).length = n5 + 1 ∧ x6 ++ [49] = dfP f (m + 1) ∧ (x6 ++ [49]).length = m + 1 ∧ x7 = shF (fun j => !f j) bb (m + 1) ∧ x7.length = n7) := Lib.hid ⟨by rw [HS.out.1]; rfl, by rw [List.length_append, HX.out.2.1]; rfl, by rw [HS.out.2.1]; rfl, by rw [List.length_append, HX.out.2.2.2.1]; rfl, by rw [HS.out.2.2]; rfl, HX.out.2.2.2.2.2⟩
        clear hown hgrow hat O3
        go_wp2
        go_roundw
        case rel => exact ⟨m + 1, q + 2, g2, c2, g3, c3, g7, c7, n5 + 1, n7, _, _, _, HQ2, by omega, by omega, by go_num, rfl, rfl, rfl, by omega, by omega, HX2, HO3⟩
        case measure => simp [intOf]; omega
      | false =>
        rw [hfm] at hd s5 s6 s7
        have hne : (x == y) = true := by have := hd.symm; simpa using this
        have HS := Lib.hid (And.intro s5 (And.intro s6 s7))
        clear hd s5 s6 s7 hx hy hfm hb
        go_wp2_with fail
        go_quiet (fail)
        have HO1 := Lib.hid (HO.out.drewN nq)
        obtain ⟨wq, hwq⟩ : ∃ wq : World, wr.drewN nq = wq := ⟨_, rfl⟩
        rw [hwq] at HO1 ⊢
        clear hwq HO hsz
        have hsz := HO1.out.2.size
        have hrow := P3.row 2 HO1.out rfl (.cells #[.int .u8 x] 5)
        rw [HX.out.2.2.2.2.2] at hrow
        have Hrow := Lib.hid hrow
        clear hrow
        go_wp2_with (at_builtin; refine wpList_ap1 rfl (.tmp 27) (.tmp 31) 37 rfl w.heap.size 5 (.int .u8 0) 1 Tryd.underlying37 Tryd.infoB9 rfl _ n7 _ rfl Hrow.out wq.heap.size (.int .u8 x) rfl (by go_simp) rfl (by omega) (by omega) (by simp only [alloc_size]; omega) ?_)
        intro v' w6 hown hgrow hat
        obtain ⟨g2, c2, rfl, O2⟩ := HO1.out.push 2 rfl hown hgrow hat
        have HO2 : Hid (P3 w w6 g5 c5 g6 c6 g2 c2 x5 x6 (x7 ++ [x])) := Lib.hid (by unfold P3; rw [show (x7 ++ [x]).map (Value.int .u8) = x7.map (Value.int .u8) ++ [.int .u8 x] from List.map_append]; exact O2)
        clear hown hgrow hat O2
        have hsz6 := HO2.out.2.size
        have hrow := P3.row 1 HO2.out rfl (.cells #[.int .u8 48] 5)
        rw [HX.out.2.2.2.1] at hrow
        have Hrow2 := Lib.hid hrow
        clear hrow
        go_wp2_with (at_builtin; refine wpList_ap1 rfl (.tmp 33) (.tmp 34) 37 rfl w.heap.size 5 (.int .u8 0) 1 Tryd.underlying37 Tryd.infoB9 rfl _ m _ rfl Hrow2.out w6.heap.size (.int .u8 48) rfl (by go_simp) rfl (by omega) (by omega) (by simp only [alloc_size]; omega) ?_)
        intro v' w7 hown hgrow hat
        obtain ⟨g3, c3, rfl, O3⟩ := HO2.out.push 1 rfl hown hgrow hat
        have HO3 : Hid (P3 w w7 g5 c5 g3 c3 g2 c2 x5 (x6 ++ [48]) (x7 ++ [x])) := Lib.hid (by unfold P3; rw [show List.map (Value.int .u8) (x6 ++ [(48 : Int)]) = x6.map (Value.int .u8) ++ [Value.int .u8 48] from List.map_append]; exact O3)
        have HX2 : Hid (x5 = shF f bb (m + 1) ∧ x5.length = n5 ∧ x6 ++ [48] = dfP f (m + 1) ∧ (x6 ++ [48]).length = m + 1 ∧ x7 ++ [x] = shF (fun j => !f j) bb (m + 1) ∧ (x7 ++ [x]).length = n7 + 1) := Lib.hid ⟨by rw [HS.out.1]; rfl, HX.out.2.1, by rw [HS.out.2.1]; rfl, by rw [List.length_append, HX.out.2.2.2.1]; rfl, by rw [HS.out.2.2]; rfl, by rw [List.length_append, HX.out.2.2.2.2.2]; rfl⟩
        clear hown hgrow hat O3
        go_wp2
        go_roundw
        case rel => exact ⟨m + 1, q + 2, g5, c5, g3, c3, g2, c2, n5, n7 + 1, _, _, _, HQ2, by omega, by omega, by go_num, rfl, rfl, rfl, by omega, by omega, HX2, HO3⟩
        case measure => simp [intOf]; omega
    · have hqi : ¬ (q:Int) + 1 < (s.size:Int) := by omega
      have hm : m = s.size / 2 := by have := HQ.out; omega
      have H5 : Hid (x5 = X5 ∧ x6 = X6 ∧ x7 = X7) := Lib.hid ⟨by rw [HX.out.1, HH.out.2.2.1, hm], by rw [HX.out.2.2.1, HH.out.2.2.2.1, hm], by rw [HX.out.2.2.2.2.1, HH.out.2.2.2.2, hm]⟩
      have r5 := (HO.out.1.rowAt 0 rfl).1
      have r6 := (HO.out.1.rowAt 1 rfl).1
      have r7 := (HO.out.1.rowAt 2 rfl).1
      rw [List.length_map, HX.out.2.1] at r5
      rw [List.length_map, HX.out.2.2.2.1] at r6
      rw [List.length_map, HX.out.2.2.2.2.2] at r7
      have hc5 : ∀ n, (convert 37 9 (.slice (some ⟨g5, 0, none⟩) n5 c5)).run Tryd.prog (wr.drewN n) = .ok (.string (strOfNums x5)) (wr.drewN n) := fun n => conv_own (P := Tryd.prog) 37 9 Tryd.underlying37 Tryd.underlying5 Tryd.underlying9 (w := wr.drewN n) r5
      have hc6 : ∀ n, (convert 37 9 (.slice (some ⟨g6, 0, none⟩) m c6)).run Tryd.prog (wr.drewN n) = .ok (.string (strOfNums x6)) (wr.drewN n) := fun n => conv_own (P := Tryd.prog) 37 9 Tryd.underlying37 Tryd.underlying5 Tryd.underlying9 (w := wr.drewN n) r6
      have hc7 : ∀ n, (convert 37 9 (.slice (some ⟨g7, 0, none⟩) n7 c7)).run Tryd.prog (wr.drewN n) = .ok (.string (strOfNums x7)) (wr.drewN n) := fun n => conv_own (P := Tryd.prog) 37 9 Tryd.underlying37 Tryd.underlying5 Tryd.underlying9 (w := wr.drewN n) r7
      clear r5 r6 r7 hm
      go_wp2_with fail
      go_quiet (fail)
      go_wp2
      go_ret3
      exact ⟨by rw [← H5.out.1, ← H5.out.2.1, ← H5.out.2.2]; rfl, (HO.out.drewN _).2⟩
end Go.Proofs.YtflgooogiceliaaDoor

import Derived.Test.YtflgooogiceliaaDoorShrink
/- Pairs of bits, and the fair bits that they give: the law FnExactFairPairs. Condition: the text is shorter than the model's greatest length. -/
namespace Go.Proofs.YtflgooogiceliaaDoor
open Go.RowKit
set_option linter.unusedVariables false

theorem Tryd.infoStr : (Tryd.prog.info? 9).map (fun i => (i.zero, i.size, i.bytes)) = some (some (.string ⟨#[]⟩), 1, 16) := by kernel_rfl
theorem OwnAt.push {w0 wr w6 : World} {l : List (Nat × (Obj → Prop))} {g c n : Nat} {e : TypeId} {xs ys : List Value} {v' : Value} {o : Obj} (h : OwnAt w0 wr l) (i : Nat) (hi : l[i]? = some (g, rowO e c xs))
    (hown : w6.ownsRow w0.heap.size e 1 v' (n + 1) ys) (hgrow : (wr.alloc o).grownBy w6 (some g)) (hat : v'.ownBlock = some g ∨ v'.ownBlock = some (wr.heap.size + 1)) :
    ∃ g2 c2, v' = .slice (some ⟨g2, 0, none⟩) (n + 1) c2 ∧ OwnAt w0 w6 (l.set i (g2, rowO e c2 ys)) := by
  obtain ⟨g2, c2, rfl, O2⟩ := (h.1.alloc o).ap i hi hown hgrow (by rw [alloc_size]; exact hat)
  refine ⟨g2, c2, rfl, O2, ?_⟩
  have h1 := h.1.lt (List.mem_of_getElem? hi)
  exact (h.2.alloc h.2.size o).grown hgrow (by have := h.2.size; simp only [alloc_size]; omega) (fun j hj => by
    simp only [Option.some.injEq] at hj; subst hj; exact h1.1)
theorem Bd.join {w0 w w' : World} {b : Nat} {xs : List Int} {rest l1 : List (Nat × (Obj → Prop))} (h : Bd w0 w b xs rest) (h1 : OwnAt w w' l1) : Bd w0 w' b xs (l1 ++ rest) := by
  have key : ∀ l : List (Nat × (Obj → Prop)), OwnAt w0 w (l ++ rest) → OwnAt w0 w' (l ++ (l1 ++ rest)) := fun l hl =>
    ⟨(hl.1.join h1.2 hl.2.size h1.1).perm (by rw [← List.append_assoc, ← List.append_assoc]; exact List.Perm.append_right _ List.perm_append_comm), bthen hl.2 h1.2⟩
  rcases h with ⟨h0, h⟩ | ⟨h0, g, c, h⟩
  · exact Or.inl ⟨h0, key _ h⟩
  · exact Or.inr ⟨h0, g, c, key _ h⟩
theorem Bd.cell {w0 w : World} {b : Nat} {xs : List Int} {g c : Nat} {e : TypeId} {vs : List Value} {rest : List (Nat × (Obj → Prop))} (h : Bd w0 w b xs ((g, rowO e c vs) :: rest)) (j : Nat) (hj : j < vs.length) : w.cell? ⟨g, j, none⟩ = vs[j]? := by
  rcases h with ⟨h0, h⟩ | ⟨h0, g', c', h⟩
  · exact h.1.cellAt 1 (g := g) (e := e) (cap := c) rfl j hj
  · exact h.1.cellAt 2 (g := g) (e := e) (cap := c) rfl j hj
def prS (s : ByteArray) (j : Nat) : ByteArray := s.extract (2 * j) (2 * j + 2)
def prV (s : ByteArray) (m : Nat) : List Value := (List.range m).map fun j => Value.string (prS s j)
theorem prV_len (s : ByteArray) (m : Nat) : (prV s m).length = m := by simp [prV]
theorem prV_succ (s : ByteArray) (m : Nat) : prV s (m + 1) = prV s m ++ [.string (prS s m)] := by simp [prV, List.range_succ]
theorem prV_at (s : ByteArray) (m j : Nat) (h : j < m) : (prV s m)[j]? = some (.string (prS s j)) := by simp [prV, h]
theorem by8_extract (s : ByteArray) (a b k : Nat) (hk : a + k < b) (hb : b ≤ s.size) : by8 (s.extract a b) k = by8 s (a + k) := by
  unfold by8
  have hd : (s.extract a b).data.toList = (s.data.toList.drop a).take (b - a) := by simp
  rw [hd]
  simp only [List.getD, List.getElem?_take, List.getElem?_drop]
  rw [if_pos (by omega)]
theorem prS_size {s : ByteArray} {j : Nat} (h : 2 * j + 2 ≤ s.size) : (prS s j).size = 2 := by
  unfold prS
  rw [ByteArray.size_extract]
  omega
theorem prS_at {s : ByteArray} {j : Nat} (h : 2 * j + 2 ≤ s.size) : ∃ h0 h1, ((((prS s j)[0]'h0).toNat : Nat) : Int) = byI s (2 * j) ∧ ((((prS s j)[1]'h1).toNat : Nat) : Int) = byI s (2 * j + 1) := by
  have hz := prS_size h
  refine ⟨by rw [hz]; omega, by rw [hz]; omega, ?_, ?_⟩
  · rw [get_by8]; unfold prS byI; rw [by8_extract _ _ _ _ (by omega) h]; rfl
  · rw [get_by8]; unfold prS byI; rw [by8_extract _ _ _ _ (by omega) h]
theorem prS_all {s : ByteArray} {j : Nat} (h : 2 * j + 2 ≤ s.size) : ∃ P : ByteArray, prS s j = P ∧ P.size = 2 ∧ ∃ h0 h1, (((P[0]'h0).toNat : Nat) : Int) = byI s (2 * j) ∧ (((P[1]'h1).toNat : Nat) : Int) = byI s (2 * j + 1) :=
  ⟨_, rfl, prS_size h, prS_at h⟩
/-- A call's answer: a new slice of its own, of one-cell elements. -/
def RetRow (w : World) (E : TypeId) (vs : List Value) (e : Ending) (w' : World) : Prop := ∃ g c, e = .returned (.slice (some ⟨g, 0, none⟩) vs.length c) ∧ OwnAt w w' [(g, rowO E c vs)]
set_option maxRecDepth 20000 in
set_option maxHeartbeats 1600000 in
theorem pairs_any (s : ByteArray) (w : World) (hs : s.size ≤ 400) : Calls Tryd.prog 105 #[.string s] w (RetRow w 9 (prV s (s.size / 2))) := by
  have H0 : Hid (OwnAt w (w.alloc (.cells #[] 9)) [(w.heap.size, rowO 9 0 (prV s 0))]) := Lib.hid ((OwnAt.start w).new ⟨#[], rfl, rfl, Nat.le_refl _, by simp [maxLen], rfl⟩)
  go_enter Tryd.func105, Tryd.ntmps105
  go_wp2
  go_loopw [4, 3] (fun i v wr => ∃ m q g c : Nat, Hid (q = 2 * m) ∧ m ≤ q ∧ q ≤ s.size ∧ i = .int .i64 (q : Nat) ∧ v = .slice (some ⟨g, 0, none⟩) m c ∧ Hid (OwnAt w wr [(g, rowO 9 c (prV s m))])) (fun i _ _ => s.size - (intOf i).toNat)
  case atStart => exact ⟨0, 0, w.heap.size, 0, Lib.hid rfl, Nat.le_refl _, Nat.zero_le _, rfl, rfl, H0⟩
  case round =>
    clear H0
    obtain ⟨m, q, g, c, HQ, hmq, hq, rfl, rfl, HO⟩ := hrel
    by_cases hlt : q + 1 < s.size
    · have hq0 : (0:Int) ≤ (q:Int) := by omega
      have hqi : (q:Int) + 1 < (s.size:Int) := by omega
      have hsz := HO.out.2.size
      have hrow := ((HO.out.1.alloc (.cells #[.string (s.extract q (q + 2))] 9)).rowAt 0 rfl).1
      rw [prV_len] at hrow
      have Hrow := Lib.hid hrow
      have HE := Lib.hid (show Value.string (s.extract q (q + 2)) = .string (prS s m) by unfold prS; rw [HQ.out])
      clear hrow
      go_wp2_with (at_builtin; refine wpList_ap1 rfl (.tmp 13) (.tmp 19) 30 rfl w.heap.size 9 (.string ⟨#[]⟩) 16 Tryd.underlying30 Tryd.infoStr rfl _ m _ rfl Hrow.out wr.heap.size (.string (s.extract q (q + 2))) rfl (by go_simp) rfl (by omega) (by omega) (by simp only [alloc_size]; omega) ?_)
      intro v' w6 hown hgrow hat
      rw [HE.out, ← prV_succ] at hown
      obtain ⟨g2, c2, rfl, O2⟩ := HO.out.push 0 rfl hown hgrow hat
      have HO2 := Lib.hid O2
      have HQ2 := Lib.hid (show q + 2 = 2 * (m + 1) by rw [HQ.out]; omega)
      clear hown hgrow hat O2
      go_wp2
      go_roundw
      case rel => exact ⟨m + 1, q + 2, g2, c2, HQ2, by omega, by omega, by go_num, rfl, HO2⟩
      case measure => simp [intOf]; omega
    · have hqi : ¬ (q:Int) + 1 < (s.size:Int) := by omega
      have HM := Lib.hid (show m = s.size / 2 by have := HQ.out; omega)
      go_wp2
      go_ret
      rw [← HM.out]
      exact ⟨g, c, by rw [prV_len]; rfl, HO.out⟩
/-- The pairs of different bits, and what pairs give. -/
def frD (s : ByteArray) (j : Nat) : Bool := byI s (2 * j) != byI s (2 * j + 1)
def frB (s : ByteArray) (j : Nat) : Int := byI s (2 * j)
def frX (s : ByteArray) : List Int := shF (frD s) (frB s) (s.size / 2)
set_option maxRecDepth 20000 in
set_option maxHeartbeats 1600000 in
theorem fairPairs_any (s : ByteArray) (w : World) (hs : s.size ≤ 400) : Calls Tryd.prog 84 #[.string s] w fun e w' => e = .returned (.string (strOfNums (frX s))) ∧ Below w.heap.size w w' := by
  have HP := Lib.hid (fun w => pairs_any s w hs)
  have HB := Lib.hid (Bd.start (OwnAt.start w))
  have hfx : frX s = shF (frD s) (frB s) (s.size / 2) := rfl
  have hok : ∀ m, numOk (shF (frD s) (frB s) m) := shF_ok (fun m => byI_ok s (2 * m))
  have hd : ∀ j, frD s j = (byI s (2 * j) != byI s (2 * j + 1)) := fun j => rfl
  have hb : ∀ j, frB s j = byI s (2 * j) := fun j => rfl
  have hat : ∀ j, 2 * j + 2 ≤ s.size → ∃ P : ByteArray, prS s j = P ∧ P.size = 2 ∧ ∃ h0 h1, (((P[0]'h0).toNat : Nat) : Int) = byI s (2 * j) ∧ (((P[1]'h1).toNat : Nat) : Int) = byI s (2 * j + 1) := fun j h => prS_all h
  have hva : ∀ j, j < s.size / 2 → (prV s (s.size / 2))[j]? = some (.string (prS s j)) := fun j h => prV_at s _ j h
  have hvl := prV_len s (s.size / 2)
  have hln := shF_len (frD s) (frB s)
  obtain ⟨f, hf⟩ : ∃ f, frD s = f := ⟨_, rfl⟩
  obtain ⟨bb, hbb⟩ : ∃ bb, frB s = bb := ⟨_, rfl⟩
  obtain ⟨X, hX⟩ : ∃ X, frX s = X := ⟨_, rfl⟩
  obtain ⟨V, hV⟩ : ∃ V, prV s (s.size / 2) = V := ⟨_, rfl⟩
  obtain ⟨n, hn⟩ : ∃ n, s.size / 2 = n := ⟨_, rfl⟩
  rw [hX]
  rw [hf, hbb, hX, hn] at hfx
  rw [hf, hbb] at hok hln
  rw [hf] at hd
  rw [hbb] at hb
  rw [hV] at HP hva hvl
  rw [hn] at hva hvl
  have hn2 : 2 * n ≤ s.size := by omega
  have HH := Lib.hid (And.intro hfx (And.intro hok (And.intro hd (And.intro hb (And.intro hat (And.intro hva hvl))))))
  have HLn := Lib.hid hln
  have hn4 : n ≤ 200 := by omega
  clear hfx hok hd hb hat hva hvl hf hbb hX hV hn hln
  obtain ⟨b, hbe⟩ : ∃ b, w.heap.size = b := ⟨_, rfl⟩
  rw [hbe] at HB
  have HBE := Lib.hid hbe
  clear hbe
  go_enter Tryd.func84, Tryd.ntmps84
  go_wp2_with fail
  refine (HP.out _).mono ?_
  rintro e w1 ⟨gp, cp, rfl, hO⟩
  rw [HH.out.2.2.2.2.2.2]
  have HD := Lib.hid (HB.out.join hO)
  rw [HBE.out]
  clear hO HB HP
  go_wp2
  go_loopw [9] (fun i wr => ∃ m : Nat, m ≤ n ∧ i = .int .i64 (m : Nat) ∧ Hid (Bd w wr b (shF f bb m) ([(gp, rowO 9 cp V)] ++ []))) (fun i _ => n - (intOf i).toNat)
  case atStart => exact ⟨0, Nat.zero_le _, rfl, HD⟩
  case round =>
    clear HD
    obtain ⟨m, hm, rfl, HD⟩ := hrel
    by_cases hlt : m < n
    · have hm0 : (0:Int) ≤ (m:Int) := by omega
      have hmi : (m:Int) < (n:Int) := by omega
      have hc := HD.out.cell m (by rw [HH.out.2.2.2.2.2.2]; exact hlt)
      rw [HH.out.2.2.2.2.2.1 m hlt] at hc
      obtain ⟨P, hP, hPs, p0, p1, e0, e1⟩ := HH.out.2.2.2.2.1 m (by omega)
      rw [hP] at hc
      have hst : shF f bb (m + 1) = if f m then shF f bb m ++ [bb m] else shF f bb m := rfl
      have hd := HH.out.2.2.1 m
      have hb := HH.out.2.2.2.1 m
      obtain ⟨x, hx⟩ : ∃ x, byI s (2 * m) = x := ⟨_, rfl⟩
      obtain ⟨y, hy⟩ : ∃ y, byI s (2 * m + 1) = y := ⟨_, rfl⟩
      rw [hx] at e0 hd hb
      rw [hy] at e1 hd
      rw [hb] at hst
      have hpi0 : (0:Int) < (P.size:Int) := by omega
      have hpi1 : (1:Int) < (P.size:Int) := by omega
      have hln := HLn.out m
      have hok := HH.out.2.1 m
      obtain ⟨xs, hxs⟩ : ∃ xs, shF f bb m = xs := ⟨_, rfl⟩
      rw [hxs] at HD hst hln
      cases hfm : f m with
      | false =>
        rw [hfm] at hst hd
        have HN := Lib.hid (fun q => show Bd w (wr.drewN q) b (shF f bb (m + 1)) ([(gp, rowO 9 cp V)] ++ []) by rw [hst]; exact HD.out.drewN q)
        have hd2 : (x != y) = false := hd.symm
        clear hst hx hy hxs hfm hb hok hP hd
        go_wp2_with fail
        go_quiet (fail)
        go_wp2
        go_roundw
        case rel => exact ⟨m + 1, by omega, by go_num, Lib.hid (HN.out _)⟩
        case measure => simp [intOf]; omega
      | true =>
        rw [hfm] at hst hd
        have HW := Lib.hid (fun q => writeByte_any b xs _ x w (wr.drewN q) (HD.out.drewN q) (by omega))
        have HST := Lib.hid hst
        have hd2 : (x != y) = true := hd.symm
        clear hst hx hy hxs hfm hb hok hP hd
        go_wp2_with fail
        go_quiet (fail)
        go_wp2_with fail
        refine (HW.out _).mono ?_
        rintro e w5 ⟨rfl, hd5⟩
        have HN := Lib.hid (show Bd w w5 b (shF f bb (m + 1)) ([(gp, rowO 9 cp V)] ++ []) by rw [HST.out]; exact hd5)
        clear hd5
        go_wp2
        go_roundw
        case rel => exact ⟨m + 1, by omega, by go_num, HN⟩
        case measure => simp [intOf]; omega
    · obtain rfl : m = n := by omega
      have hln := HLn.out m
      have HT := Lib.hid (builderText_any b _ _ w wr HD.out (HH.out.2.1 m) (by omega))
      go_wp2_with fail
      refine HT.out.mono ?_
      rintro e w5 ⟨rfl, hO⟩
      have HO := Lib.hid hO
      clear hO
      go_wp2
      go_ret
      exact ⟨by rw [HH.out.1]; rfl, HO.out.2⟩
end Go.Proofs.YtflgooogiceliaaDoor

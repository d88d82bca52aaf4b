import Derived.Test.YtpineiocjaajnaaDoorDec
import Derived.Test.YtpineiocjaajnaaDoorFrac
import Derived.Test.YtpineiocjaajnaaDoorAnyK
import Derived.Lib.Join
import Derived.Lib.AppendIntMem
/- The text of a congruence: the law FnExactCongruenceText. Condition: the table of powers of ten is laid. -/
namespace Go.Proofs.YtpineiocjaajnaaDoor
open Go.RowKit
set_option linter.unusedVariables false

/-- The table of powers of ten is laid. -/
def TabT (w : World) : Prop := Lib.TabIs Tryd.prog w "internal/strconv.uint64pow10" .u64 Lib.pow10Tab
theorem TabT.below {w w' : World} (h : TabT w) (hb : Below w.heap.size w w') : TabT w' := (Lib.tabBelow_of_tabIs h) w' hb
theorem decimal_any (n : Int) (w : World) (hl : -9223372036854775808 ≤ n) (hr : n ≤ 9223372036854775807) (ht : TabT w) :
    Calls Tryd.prog 45 #[.int .i64 n] w fun e w' => e = .returned (.string (itB n)) ∧ Below w.heap.size w w' := by
  have HF := Lib.hid (Tryd.strconv_FormatInt_10 n hl hr w ht)
  go_enter Tryd.func45, Tryd.ntmps45
  go_wp2_with fail
  refine HF.out.mono ?_
  rintro e w1 ⟨rfl, k, os, hw1⟩
  have HB := Lib.hid (show Below w.heap.size w w1 by rw [hw1]; exact Lib.below_grow w.heap.size w (Nat.le_refl _) k os)
  clear hw1
  go_wp2_with fail
  go_ret
  exact ⟨rfl, HB.out⟩
/-- Texts joined. -/
def jnB (zs : List ByteArray) (sep : ByteArray) : ByteArray := ⟨(Lib.join (zs.map (·.data.toList)) sep.data.toList).toArray⟩
theorem jn_len {B : Nat} (sep : List UInt8) : ∀ (xs : List (List UInt8)), (∀ x ∈ xs, x.length ≤ B) → (Lib.join xs sep).length ≤ xs.length * (B + sep.length)
  | [], _ => by simp [Lib.join_nil]
  | x :: r, h => by
    rw [Lib.join_cons, List.length_append]
    have h1 := h x List.mem_cons_self
    have h2 : (Lib.joinTail sep r).length ≤ r.length * (B + sep.length) := by
      unfold Lib.joinTail
      have h3 : ∀ y ∈ r, y.length ≤ B := fun y hy => h y (List.mem_cons_of_mem _ hy)
      clear h h1
      induction r with
      | nil => simp
      | cons y r ih =>
        have h4 := h3 y List.mem_cons_self
        have h5 := ih (fun z hz => h3 z (List.mem_cons_of_mem _ hz))
        rw [List.map_cons, List.flatten_cons, List.length_append, List.length_append, List.length_cons, Nat.succ_mul]
        omega
    rw [List.length_cons, Nat.succ_mul]
    omega
/-- A list of texts of the call's own that grows. -/
def StrA (w0 wr : World) (v : Value) (zs : List ByteArray) : Prop := GrowAt w0 wr 9 v zs.length (zs.map Value.string)
theorem StrA.shape {w0 wr : World} {v : Value} {zs : List ByteArray} (h : StrA w0 wr v zs) (h0 : 0 < zs.length) : ∃ g c, v = .slice (some ⟨g, 0, none⟩) zs.length c ∧ zs.length ≤ c ∧ g < wr.heap.size ∧ ∀ (j : Nat) x, zs[j]? = some x → wr.cell? ⟨g, 0 + j, none⟩ = some (.string x) := by
  rcases h.1.2 with ⟨e, h1⟩ | ⟨g, c, cur, e, h1, h2, h3, _⟩
  · omega
  · subst e
    refine ⟨g, c, rfl, h3, lt_of_heap h2, fun j x hj => ?_⟩
    have := h.1.cellAt j (by obtain ⟨h, _⟩ := List.getElem?_eq_some_iff.1 hj; omega)
    rw [Nat.zero_add, this, List.getElem?_map, hj]
    rfl
theorem joinA_any (w0 w : World) (v : Value) (zs : List ByteArray) (sep : ByteArray) (h : StrA w0 w v zs) (h0 : 0 < zs.length) (h1 : zs.length ≤ 1000) (hs : ∀ x ∈ zs, x.size ≤ 1000) (hsep : sep.size ≤ 10) :
    Calls Tryd.prog 47 #[v, .string sep] w fun e w' => e = .returned (.string (jnB zs sep)) ∧ Below w.heap.size w w' := by
  obtain ⟨g, c, rfl, hc, hg, hcell⟩ := h.shape h0
  refine Tryd.strings_Join g 0 c zs sep w hcell hg (by omega) hc ?_
  refine Nat.le_trans (jn_len (B := 1000) sep.data.toList _ ?_) ?_
  · intro x hx
    obtain ⟨y, hy, rfl⟩ := List.mem_map.1 hx
    exact hs y hy
  · rw [List.length_map]
    have : sep.data.toList.length ≤ 10 := hsep
    have := Nat.mul_le_mul h1 (show 1000 + sep.data.toList.length ≤ 1010 by omega)
    omega
theorem StrA.start (w : World) : StrA w (w.alloc (.cells #[] 9)) (.slice (some ⟨w.heap.size, 0, none⟩) 0 0) [] := GrowAt.start w 9
theorem StrA.push {w0 wr w6 : World} {v v' : Value} {zs : List ByteArray} {x : ByteArray} {o : Obj} (h : StrA w0 wr v zs) (hown : w6.ownsRow w0.heap.size 9 1 v' (zs.length + 1) (zs.map Value.string ++ [.string x])) (hg : (wr.alloc o).grownBy w6 v.ownBlock) : StrA w0 w6 v' (zs ++ [x]) := by
  unfold StrA
  rw [List.length_append, List.map_append]
  exact (h.alloc o).push hown hg
/-- The texts of the first numbers. -/
def itL (zs : List Int) (k : Nat) : List ByteArray := (zs.take k).map itB
theorem itL_push {zs : List Int} {k : Nat} (h : k < zs.length) : itL zs k ++ [itB (zs.getD k 0)] = itL zs (k + 1) := by
  unfold itL
  rw [take_snoc _ _ h, List.map_append]
  rfl
theorem itL_len {zs : List Int} {k : Nat} (h : k ≤ zs.length) : (itL zs k).length = k := by simp [itL]; omega
theorem Tryd.infoStrC : (Tryd.prog.info? 9).map (fun i => (i.zero, i.size, i.bytes)) = some (some (.string ⟨#[]⟩), 1, 16) := by kernel_rfl
set_option maxRecDepth 20000 in
set_option maxHeartbeats 1600000 in
theorem listText_any (a : Option Addr) (len cap : Nat) (zs : List Int) (w : World) (h0 : 0 < len) (hl : len ≤ 64) (hx : IsInts w a len zs) (hz : ∀ j, -9223372036854775808 ≤ zs.getD j 0 ∧ zs.getD j 0 ≤ 9223372036854775807) (ht : TabT w) :
    Calls Tryd.prog 51 #[.slice a len cap] w fun e w' => e = .returned (.string (jnB (zs.map itB) { data := #[44] })) ∧ Below w.heap.size w w' := by
  have HX := Lib.hid hx
  have HZ := Lib.hid hz
  have HT := Lib.hid ht
  have hzl := hx.length
  have H0 := Lib.hid (show StrA w (w.alloc (.cells #[] 9)) (.slice (some ⟨w.heap.size, 0, none⟩) 0 0) (itL zs 0) from StrA.start w)
  clear hx hz ht
  go_enter Tryd.func51, Tryd.ntmps51
  go_wp2_with fail
  go_loopw [9, 3] (fun i v wr => ∃ (k : Nat) (s : Option Addr) (c : Nat), k ≤ len ∧ i = .int .i64 (k : Nat) ∧ v = .slice s k c ∧ Hid (StrA w wr (.slice s k c) (itL zs k))) (fun i _ _ => len - (intOf i).toNat)
  case atStart => exact ⟨0, _, _, Nat.zero_le _, rfl, rfl, H0⟩
  case round =>
    clear H0
    obtain ⟨k, s, c, hk, rfl, rfl, HG⟩ := hrel
    by_cases hlt : k < len
    · have hki : (k : Int) < (len : Int) := by omega
      have hk0 : (0 : Int) ≤ (k : Int) := by omega
      obtain ⟨b, off, rfl, cc⟩ := (HX.out.below HG.out.2).at hlt
      have hzb := HZ.out k
      have HP := Lib.hid (itL_push (zs := zs) (k := k) (by omega))
      have HL := Lib.hid (itL_len (zs := zs) (k := k) (by omega))
      obtain ⟨z, hz⟩ : ∃ z, zs.getD k 0 = z := ⟨_, rfl⟩
      rw [hz] at cc hzb HP
      clear hz
      go_wp2_with fail
      refine (decimal_any z _ hzb.1 hzb.2 (HT.out.below HG.out.2)).mono ?_
      rintro e w2 ⟨rfl, hb⟩
      have HG2 := Lib.hid (show StrA w w2 (.slice s k c) (itL zs k) from HG.out.ret hb)
      have hsz := HG2.out.2.size
      clear hb HG cc
      obtain ⟨y, hy⟩ : ∃ y, itB z = y := ⟨_, rfl⟩
      rw [hy] at HP ⊢
      clear hy
      have how := (HG2.out.alloc (.cells #[.string y] 9)).1
      rw [HL.out] at how
      have HOW := Lib.hid how
      clear how
      go_wp2_with (at_builtin; refine wpList_ap1 rfl (.tmp 13) (.tmp 16) 65 rfl w.heap.size 9 (.string ⟨#[]⟩) 16 Tryd.underlying65 Tryd.infoStrC rfl _ k _ rfl HOW.out _ (.string y) rfl (by go_simp) rfl (by omega) (by omega) (by simp only [alloc_size]; omega) ?_)
      intro v' w6 hown hgrow _
      obtain ⟨a6, c6, rfl⟩ := own_form hown
      have HG3 := Lib.hid (show StrA w w6 (.slice a6 (k + 1) c6) (itL zs (k + 1)) by
        rw [← HP.out]
        exact HG2.out.push (by rw [HL.out]; exact hown) hgrow)
      clear hown hgrow HOW HG2
      go_wp2_with fail
      go_roundw
      case rel => exact ⟨k + 1, a6, c6, by omega, by go_num, rfl, HG3⟩
      case measure => simp [intOf] <;> omega
    · obtain rfl : k = len := by omega
      have hki : ¬ (k : Int) < (k : Int) := by omega
      have hk0 : ¬ (k : Int) = 0 := by omega
      have e : itL zs k = zs.map itB := by unfold itL; rw [List.take_of_length_le (by omega)]
      have HG4 := HG
      rw [e] at HG4
      have HJ := Lib.hid (joinA_any w wr _ (zs.map itB) { data := #[44] } HG4.out (by rw [List.length_map]; omega) (by rw [List.length_map]; omega) (fun x hx => by
        obtain ⟨y, hy, rfl⟩ := List.mem_map.1 hx
        obtain ⟨j, hj, e2⟩ := List.getElem_of_mem hy
        have := HZ.out j
        rw [List.getD, List.getElem?_eq_getElem hj, e2] at this
        simp only [Option.getD_some] at this
        exact Nat.le_trans (itB_size (by omega)) (by omega)) (by decide))
      clear e
      go_wp2_with fail
      refine HJ.out.mono ?_
      rintro e w2 ⟨rfl, hb⟩
      have HB := Lib.hid (bthen HG.out.2 hb)
      clear hb
      go_wp2_with fail
      go_ret
      exact ⟨rfl, HB.out⟩
/-- Three numbers in a block. -/
structure G3 (w : World) (b : Nat) (m a c : Int) : Prop where
  c0 : w.cell? ⟨b, 0, none⟩ = some (.int .i64 m)
  c1 : w.cell? ⟨b, 1, none⟩ = some (.int .i64 a)
  c2 : w.cell? ⟨b, 2, none⟩ = some (.int .i64 c)
  lt : b < w.heap.size
theorem G3.all {w w' : World} {b : Nat} {m a c : Int} (h : G3 w b m a c) (hb : Below w.heap.size w w') : G3 w' b m a c :=
  ⟨(hb.cell (p := ⟨b, 0, none⟩) h.lt).trans h.c0, (hb.cell (p := ⟨b, 1, none⟩) h.lt).trans h.c1, (hb.cell (p := ⟨b, 2, none⟩) h.lt).trans h.c2, Nat.lt_of_lt_of_le h.lt hb.size⟩
theorem G3.new (w : World) (t : Nat) (m a c : Int) : G3 (w.alloc (.cells #[.int .i64 m, .int .i64 a, .int .i64 c] t (0, 0))) w.heap.size m a c := by
  have h := heap_at_new w (.cells #[.int .i64 m, .int .i64 a, .int .i64 c] t (0, 0))
  refine ⟨?_, ?_, ?_, by simp⟩ <;> simp only [World.cell?, h] <;> rfl
def cgOk (m a c : Int) : Bool := inR m 2 100000 && (inR a 0 (m - 1) && inR c 0 (m - 1))
theorem cg_wrap {m : Int} (h : inR m 2 100000 = true) : IntKind.i64.wrap (m - 1) = m - 1 := by
  simp only [inR, Bool.and_eq_true, decide_eq_true_eq] at h
  exact IntWalk.i64_in _ (by omega)
theorem validCg_any (m a c : Int) (w : World) : Calls Tryd.prog 50 #[.agg #[.int .i64 m, .int .i64 a, .int .i64 c]] w fun e w' => e = .returned (.bool (cgOk m a c)) ∧ Below w.heap.size w w' := by
  have H0 := Lib.hid (And.intro (G3.new w 42 m a c) ((Below.refl _ w).alloc (Nat.le_refl _) (.cells #[.int .i64 m, .int .i64 a, .int .i64 c] 42)))
  cases h1 : inR m 2 100000 with
  | false =>
    have HV := Lib.hid (show cgOk m a c = false by unfold cgOk; rw [h1]; rfl)
    have H1 := Lib.hid h1
    clear h1
    go_enter Tryd.func50, Tryd.ntmps50
    go_wp2_with fail
    refine (inRangeQ _ _ _ _).mono ?_
    rintro e w' ⟨rfl, rfl⟩
    rw [H1.out]
    obtain ⟨wA, hwA⟩ : ∃ w', w.alloc (.cells #[.int .i64 m, .int .i64 a, .int .i64 c] 42) = w' := ⟨_, rfl⟩
    rw [hwA] at H0 ⊢
    clear hwA
    obtain ⟨y0, y1, y2, y3⟩ := H0.out.1
    go_wp2_with fail
    go_ret
    exact ⟨by rw [HV.out]; rfl, H0.out.2⟩
  | true =>
    have hw := cg_wrap h1
    have H1 := Lib.hid h1
    cases h2 : inR a 0 (m - 1) with
    | false =>
      have HV := Lib.hid (show cgOk m a c = false by unfold cgOk; rw [h1, h2]; rfl)
      have H2 := Lib.hid h2
      clear h1 h2
      go_enter Tryd.func50, Tryd.ntmps50
      go_wp2_with fail
      refine (inRangeQ _ _ _ _).mono ?_
      rintro e w' ⟨rfl, rfl⟩
      rw [H1.out]
      obtain ⟨wA, hwA⟩ : ∃ w', w.alloc (.cells #[.int .i64 m, .int .i64 a, .int .i64 c] 42) = w' := ⟨_, rfl⟩
      rw [hwA] at H0 ⊢
      clear hwA
      obtain ⟨y0, y1, y2, y3⟩ := H0.out.1
      go_wp2_with fail
      refine (inRangeQ _ _ _ _).mono ?_
      rintro e w' ⟨rfl, rfl⟩
      rw [H2.out]
      go_wp2_with fail
      go_ret
      exact ⟨by rw [HV.out]; rfl, H0.out.2⟩
    | true =>
      have HV := Lib.hid (show cgOk m a c = inR c 0 (m - 1) by unfold cgOk; rw [h1, h2]; rfl)
      have H2 := Lib.hid h2
      clear h1 h2
      go_enter Tryd.func50, Tryd.ntmps50
      go_wp2_with fail
      refine (inRangeQ _ _ _ _).mono ?_
      rintro e w' ⟨rfl, rfl⟩
      rw [H1.out]
      obtain ⟨wA, hwA⟩ : ∃ w', w.alloc (.cells #[.int .i64 m, .int .i64 a, .int .i64 c] 42) = w' := ⟨_, rfl⟩
      rw [hwA] at H0 ⊢
      clear hwA
      obtain ⟨y0, y1, y2, y3⟩ := H0.out.1
      go_wp2_with fail
      refine (inRangeQ _ _ _ _).mono ?_
      rintro e w' ⟨rfl, rfl⟩
      rw [H2.out]
      go_wp2_with fail
      refine (inRangeQ _ _ _ _).mono ?_
      rintro e w' ⟨rfl, rfl⟩
      obtain ⟨z, hz⟩ : ∃ z, inR c 0 (m - 1) = z := ⟨_, rfl⟩
      rw [hz] at HV ⊢
      clear hz
      go_wp2_with fail
      go_ret
      exact ⟨by rw [HV.out]; rfl, H0.out.2⟩
theorem l03Is_any (m a c : Int) (b : Nat) (w : World) (hc : G3 w b m a c) : Calls Tryd.prog 48 #[.pointer (some ⟨b, 0, none⟩)] w fun e w' => e = .returned (.bool (cgOk m a c)) ∧ Below w.heap.size w w' := by
  obtain ⟨y0, y1, y2, y3⟩ := hc
  cases h1 : inR m 2 100000 with
  | false =>
    have HV := Lib.hid (show cgOk m a c = false by unfold cgOk; rw [h1]; rfl)
    have H1 := Lib.hid (fun w => l00InQ m 2 100000 w)
    rw [h1] at H1
    clear h1
    go_enter Tryd.func48, Tryd.ntmps48
    go_wp2_with fail
    go_quiet ((go_at_call 63; exact Calls.quiet_of_same (H1.out _)))
    go_wp2
    go_ret
    exact ⟨by rw [HV.out]; rfl, drewN_below _ _⟩
  | true =>
    have hw := cg_wrap h1
    have H1 := Lib.hid (fun w => l00InQ m 2 100000 w)
    rw [h1] at H1
    cases h2 : inR a 0 (m - 1) with
    | false =>
      have HV := Lib.hid (show cgOk m a c = false by unfold cgOk; rw [h1, h2]; rfl)
      have H2 := Lib.hid (fun w => l00InQ a 0 (m - 1) w)
      rw [h2] at H2
      clear h1 h2
      go_enter Tryd.func48, Tryd.ntmps48
      go_wp2_with fail
      go_quiet ((go_at_call 63; (first | (with_reducible exact Calls.quiet_of_same (H1.out _)) | (with_reducible exact Calls.quiet_of_same (H2.out _)))))
      go_wp2
      go_ret
      exact ⟨by rw [HV.out]; rfl, drewN_below _ _⟩
    | true =>
      have HV := Lib.hid (show cgOk m a c = inR c 0 (m - 1) by unfold cgOk; rw [h1, h2]; rfl)
      have H2 := Lib.hid (fun w => l00InQ a 0 (m - 1) w)
      have H3 := Lib.hid (fun w => l00InQ c 0 (m - 1) w)
      rw [h2] at H2
      obtain ⟨z, hz⟩ : ∃ z, inR c 0 (m - 1) = z := ⟨_, rfl⟩
      rw [hz] at HV H3
      clear h1 h2 hz
      go_enter Tryd.func48, Tryd.ntmps48
      go_wp2_with fail
      go_quiet ((go_at_call 63; (first | (with_reducible exact Calls.quiet_of_same (H1.out _)) | (with_reducible exact Calls.quiet_of_same (H2.out _)) | (with_reducible exact Calls.quiet_of_same (H3.out _)))))
      go_wp2
      go_ret
      exact ⟨by rw [HV.out]; rfl, drewN_below _ _⟩
theorem jn_three (X Y Z : ByteArray) : X ++ { data := #[44] } ++ Y ++ { data := #[44] } ++ Z = jnB [X, Y, Z] { data := #[44] } := by
  apply ByteArray.ext
  apply Array.toList_inj.1
  simp [jnB, Lib.join_cons, Lib.joinTail]
set_option maxRecDepth 20000 in
set_option maxHeartbeats 1600000 in
theorem l03Text_any (m a c : Int) (b : Nat) (w : World) (hc : G3 w b m a c) (h1 : -9223372036854775808 ≤ m ∧ m ≤ 9223372036854775807) (h2 : -9223372036854775808 ≤ a ∧ a ≤ 9223372036854775807) (h3 : -9223372036854775808 ≤ c ∧ c ≤ 9223372036854775807) :
    Calls Tryd.prog 49 #[.pointer (some ⟨b, 0, none⟩)] w fun e w' => e = .returned (.string (jnB [itB m, itB a, itB c] { data := #[44] })) ∧ Below w.heap.size w w' := by
  have HC := Lib.hid hc
  have HM := Lib.hid (fun w => l01Dec_any m w h1.1 h1.2)
  have HA := Lib.hid (fun w => l01Dec_any a w h2.1 h2.2)
  have HCc := Lib.hid (fun w => l01Dec_any c w h3.1 h3.2)
  obtain ⟨X, hX⟩ : ∃ X, itB m = X := ⟨_, rfl⟩
  obtain ⟨Y, hY⟩ : ∃ Y, itB a = Y := ⟨_, rfl⟩
  obtain ⟨Z, hZ⟩ : ∃ Z, itB c = Z := ⟨_, rfl⟩
  rw [hX] at HM
  rw [hY] at HA
  rw [hZ] at HCc
  rw [hX, hY, hZ, ← jn_three]
  have hx20 : X.size ≤ 20 := by rw [← hX]; exact itB_size (by omega)
  have hy20 : Y.size ≤ 20 := by rw [← hY]; exact itB_size (by omega)
  have hz20 : Z.size ≤ 20 := by rw [← hZ]; exact itB_size (by omega)
  have hs44 : ByteArray.size { data := #[44] } = 1 := rfl
  clear hc hX hY hZ
  go_enter Tryd.func49, Tryd.ntmps49
  go_wp2_with fail
  have HSA : Hid (∀ w', Below w.heap.size w w' → w'.cell? ⟨b, 0, none⟩ = some (.int .i64 m) ∧ w'.cell? ⟨b, 1, none⟩ = some (.int .i64 a) ∧ w'.cell? ⟨b, 2, none⟩ = some (.int .i64 c)) := Lib.hid (fun w' hb => ⟨(HC.out.all hb).c0, (HC.out.all hb).c1, (HC.out.all hb).c2⟩)
  have HB := Lib.hid ((Below.refl w.heap.size w).drew)
  have hS := HSA.out _ HB.out
  refine wp_region_any (by kernel_rfl) (any_of_K (k := 19) (S := fun w' => w'.cell? ⟨b, 0, none⟩ = some (.int .i64 m) ∧ w'.cell? ⟨b, 1, none⟩ = some (.int .i64 a) ∧ w'.cell? ⟨b, 2, none⟩ = some (.int .i64 c)) (T := fun _ => True) _ _ _ _ ?_)
  change anyK _ _ _ _ _ _ _ _ _ _ (World.drew w)
  obtain ⟨v, hv⟩ : ∃ w', w.drew = w' := ⟨_, rfl⟩
  rw [hv] at HB hS ⊢
  clear hv
  refine anyT_take (i := 0) (n := 19) (v := .pointer (some ⟨b, 0, none⟩)) rfl (by decide) (by kernel_rfl) (by kernel_rfl) (by kernel_rfl) (fun _ _ _ h => h) (Or.inl ⟨by kernel_rfl, fun w' hw => by go_simp⟩) hS trivial ?_
  refine anyT_take (i := 1) (n := 18) (v := .pointer (some ⟨b, 0, none⟩)) rfl (by decide) (by kernel_rfl) (by kernel_rfl) (by kernel_rfl) (fun _ _ _ h => h) (Or.inl ⟨by kernel_rfl, fun w' hw => by go_simp⟩) hS trivial ?_
  refine anyT_take (i := 2) (n := 17) (v := .pointer (some ⟨b, 0, none⟩)) rfl (by decide) (by kernel_rfl) (by kernel_rfl) (by kernel_rfl) (fun _ _ _ h => h) (Or.inl ⟨by kernel_rfl, fun w' hw => by go_simp⟩) hS trivial ?_
  refine anyK_take (i := 3) (n := 16) (v := .int .i64 m) rfl rfl (by kernel_rfl) (by kernel_rfl) (by kernel_rfl) (by kernel_rfl) (by kernel_rfl) (fun _ _ _ h => h) (Or.inl ⟨by kernel_rfl, fun w' hw => by (obtain ⟨z0, z1, z2⟩ := hw; go_simp)⟩) hS trivial ?_
  refine anyT_take (i := 6) (n := 15) (v := .pointer (some ⟨b, 0, none⟩)) rfl (by decide) (by kernel_rfl) (by kernel_rfl) (by kernel_rfl) (fun _ _ _ h => h) (Or.inl ⟨by kernel_rfl, fun w' hw => by go_simp⟩) hS trivial ?_
  refine anyT_take (i := 7) (n := 14) (v := .pointer (some ⟨b, 0, none⟩)) rfl (by decide) (by kernel_rfl) (by kernel_rfl) (by kernel_rfl) (fun _ _ _ h => h) (Or.inl ⟨by kernel_rfl, fun w' hw => by go_simp⟩) hS trivial ?_
  refine anyT_take (i := 8) (n := 13) (v := .pointer (some ⟨b, 1, none⟩)) rfl (by decide) (by kernel_rfl) (by kernel_rfl) (by kernel_rfl) (fun _ _ _ h => h) (Or.inl ⟨by kernel_rfl, fun w' hw => by go_simp⟩) hS trivial ?_
  refine anyK_take (i := 9) (n := 12) (v := .int .i64 a) rfl rfl (by kernel_rfl) (by kernel_rfl) (by kernel_rfl) (by kernel_rfl) (by kernel_rfl) (fun _ _ _ h => h) (Or.inl ⟨by kernel_rfl, fun w' hw => by (obtain ⟨z0, z1, z2⟩ := hw; go_simp)⟩) hS trivial ?_
  refine anyT_take (i := 13) (n := 11) (v := .pointer (some ⟨b, 0, none⟩)) rfl (by decide) (by kernel_rfl) (by kernel_rfl) (by kernel_rfl) (fun _ _ _ h => h) (Or.inl ⟨by kernel_rfl, fun w' hw => by go_simp⟩) hS trivial ?_
  refine anyT_take (i := 14) (n := 10) (v := .pointer (some ⟨b, 0, none⟩)) rfl (by decide) (by kernel_rfl) (by kernel_rfl) (by kernel_rfl) (fun _ _ _ h => h) (Or.inl ⟨by kernel_rfl, fun w' hw => by go_simp⟩) hS trivial ?_
  refine anyT_take (i := 15) (n := 9) (v := .pointer (some ⟨b, 2, none⟩)) rfl (by decide) (by kernel_rfl) (by kernel_rfl) (by kernel_rfl) (fun _ _ _ h => h) (Or.inl ⟨by kernel_rfl, fun w' hw => by go_simp⟩) hS trivial ?_
  refine anyK_take (i := 16) (n := 8) (v := .int .i64 c) rfl rfl (by kernel_rfl) (by kernel_rfl) (by kernel_rfl) (by kernel_rfl) (by kernel_rfl) (fun _ _ _ h => h) (Or.inl ⟨by kernel_rfl, fun w' hw => by (obtain ⟨z0, z1, z2⟩ := hw; go_simp)⟩) hS trivial ?_
  refine anyK_all (n := 7) (rs := [4]) (by kernel_rfl) (by simp) (fun i hi => ?_)
  simp only [List.mem_cons, List.not_mem_nil, or_false] at hi
  obtain rfl := hi
  refine wpOp_step rfl (fun K' hK => ?_)
  go_simp
  refine (HM.out _).mono ?_
  rintro e v ⟨rfl, hb⟩
  have HBn := Lib.hid (bthen HB.out hb)
  clear HB
  have HB := HBn
  clear HBn
  replace hS := HSA.out _ HB.out
  refine hK _ _ ⟨fun _ _ => hS, trivial, ?_⟩
  clear hK hb
  refine anyT_take (i := 5) (n := 6) (v := .string (X ++ { data := #[44] })) rfl (by decide) (by kernel_rfl) (by kernel_rfl) (by kernel_rfl) (fun _ _ _ h => h) (Or.inl ⟨by kernel_rfl, fun w' hw => by (go_simp <;> ((try simp only [ByteArray.size_append, hs44]); omega))⟩) hS trivial ?_
  refine anyK_all (n := 5) (rs := [10]) (by kernel_rfl) (by simp) (fun i hi => ?_)
  simp only [List.mem_cons, List.not_mem_nil, or_false] at hi
  obtain rfl := hi
  refine wpOp_step rfl (fun K' hK => ?_)
  go_simp
  refine (HA.out _).mono ?_
  rintro e v ⟨rfl, hb⟩
  have HBn := Lib.hid (bthen HB.out hb)
  clear HB
  have HB := HBn
  clear HBn
  replace hS := HSA.out _ HB.out
  refine hK _ _ ⟨fun _ _ => hS, trivial, ?_⟩
  clear hK hb
  refine anyT_take (i := 11) (n := 4) (v := .string (X ++ { data := #[44] } ++ Y)) rfl (by decide) (by kernel_rfl) (by kernel_rfl) (by kernel_rfl) (fun _ _ _ h => h) (Or.inl ⟨by kernel_rfl, fun w' hw => by (go_simp <;> ((try simp only [ByteArray.size_append, hs44]); omega))⟩) hS trivial ?_
  refine anyT_take (i := 12) (n := 3) (v := .string (X ++ { data := #[44] } ++ Y ++ { data := #[44] })) rfl (by decide) (by kernel_rfl) (by kernel_rfl) (by kernel_rfl) (fun _ _ _ h => h) (Or.inl ⟨by kernel_rfl, fun w' hw => by (go_simp <;> ((try simp only [ByteArray.size_append, hs44]); omega))⟩) hS trivial ?_
  refine anyK_all (n := 2) (rs := [17]) (by kernel_rfl) (by simp) (fun i hi => ?_)
  simp only [List.mem_cons, List.not_mem_nil, or_false] at hi
  obtain rfl := hi
  refine wpOp_step rfl (fun K' hK => ?_)
  go_simp
  refine (HCc.out _).mono ?_
  rintro e v ⟨rfl, hb⟩
  have HBn := Lib.hid (bthen HB.out hb)
  clear HB
  have HB := HBn
  clear HBn
  replace hS := HSA.out _ HB.out
  refine hK _ _ ⟨fun _ _ => hS, trivial, ?_⟩
  clear hK hb
  refine anyT_take (i := 18) (n := 1) (v := .string (X ++ { data := #[44] } ++ Y ++ { data := #[44] } ++ Z)) rfl (by decide) (by kernel_rfl) (by kernel_rfl) (by kernel_rfl) (fun _ _ _ h => h) (Or.inl ⟨by kernel_rfl, fun w' hw => by (go_simp <;> ((try simp only [ByteArray.size_append, hs44]); omega))⟩) hS trivial ?_
  refine anyK_all (n := 0) (rs := [19]) (by kernel_rfl) (by simp) (fun i hi => ?_)
  simp only [List.mem_cons, List.not_mem_nil, or_false] at hi
  obtain rfl := hi
  refine wpOp_step rfl (fun K' hK => ?_)
  go_simp
  refine hK _ _ ⟨(fun h => absurd rfl h), trivial, ?_⟩
  clear hK
  refine ⟨by kernel_rfl, ?_⟩
  go_wp2_with fail
  go_ret
  exact ⟨rfl, HB.out⟩
/-- What both texts are. -/
def cgV (m a c : Int) : Value := if cgOk m a c then .tuple #[.string (jnB [itB m, itB a, itB c] { data := #[44] }), .bool true] else .tuple #[.string { data := #[] }, .bool false]
theorem cgV_form (m a c : Int) : ∃ s b, cgV m a c = .tuple #[.string s, .bool b] := by unfold cgV; split <;> exact ⟨_, _, rfl⟩
theorem cg_bd {m a c : Int} (h : cgOk m a c = true) : (2 ≤ m ∧ m ≤ 100000) ∧ (0 ≤ a ∧ a ≤ m - 1) ∧ (0 ≤ c ∧ c ≤ m - 1) := by
  simp only [cgOk, inR, Bool.and_eq_true, decide_eq_true_eq] at h
  exact h
set_option maxRecDepth 20000 in
theorem cgText_any (m a c : Int) (w : World) (ht : TabT w) : Calls Tryd.prog 18 #[.agg #[.int .i64 m, .int .i64 a, .int .i64 c]] w fun e w' => e = .returned (cgV m a c) ∧ Below w.heap.size w w' := by
  have H0 := Lib.hid (And.intro (G3.new w 42 m a c) ((Below.refl _ w).alloc (Nat.le_refl _) (.cells #[.int .i64 m, .int .i64 a, .int .i64 c] 42)))
  have HT := Lib.hid ht
  clear ht
  cases hv : cgOk m a c with
  | false =>
    have HV := Lib.hid (And.intro hv (show cgV m a c = .tuple #[.string { data := #[] }, .bool false] by unfold cgV; rw [hv]; rfl))
    clear hv
    go_enter Tryd.func18, Tryd.ntmps18
    go_wp2_with fail
    refine (validCg_any _ _ _ _).mono ?_
    rintro e w1 ⟨rfl, hb⟩
    rw [HV.out.1]
    have HB := Lib.hid (bthen H0.out.2 hb)
    clear hb
    go_wp2_with fail
    go_ret2
    exact ⟨by rw [HV.out.2]; rfl, HB.out⟩
  | true =>
    have HV := Lib.hid (And.intro hv (show cgV m a c = .tuple #[.string (jnB [itB m, itB a, itB c] { data := #[44] }), .bool true] by unfold cgV; rw [hv]; rfl))
    have hbd := cg_bd hv
    clear hv
    go_enter Tryd.func18, Tryd.ntmps18
    go_wp2_with fail
    refine (validCg_any _ _ _ _).mono ?_
    rintro e w1 ⟨rfl, hb⟩
    rw [HV.out.1]
    have H1 := Lib.hid (And.intro (H0.out.1.all hb) (bthen H0.out.2 hb))
    clear hb H0
    obtain ⟨y0, y1, y2, y3⟩ := H1.out.1
    have HL := Lib.hid (show Calls Tryd.prog 51 #[.slice (some ⟨w1.heap.size, 0, none⟩) 3 3] (w1.alloc (.cells #[.int .i64 m, .int .i64 a, .int .i64 c] 2)) fun e w' => e = .returned (.string (jnB [itB m, itB a, itB c] { data := #[44] })) ∧ Below w1.heap.size w1 w' by
      have hA := (Below.refl _ w1).alloc (Nat.le_refl _) (.cells #[.int .i64 m, .int .i64 a, .int .i64 c] 2)
      have g := G3.new w1 2 m a c
      refine (listText_any _ 3 3 [m, a, c] _ (by omega) (by omega) ⟨rfl, fun j hj => ⟨_, _, rfl, ?_⟩⟩ (fun j => ?_) (HT.out.below (bthen H1.out.2 hA))).mono ?_
      · rcases (show j = 0 ∨ j = 1 ∨ j = 2 by omega) with rfl | rfl | rfl
        · exact g.c0
        · exact g.c1
        · exact g.c2
      · rcases (show j = 0 ∨ j = 1 ∨ j = 2 ∨ 3 ≤ j by omega) with rfl | rfl | rfl | h
        · simp; omega
        · simp; omega
        · simp; omega
        · have : ([m, a, c].getD j 0) = 0 := by rw [List.getD, List.getElem?_eq_none (by simp; omega)]; rfl
          rw [this]; omega
      · rintro e w' ⟨rfl, hb⟩
        exact ⟨rfl, bthen hA hb⟩)
    go_wp2_with fail
    refine HL.out.mono ?_
    rintro e w2 ⟨rfl, hb⟩
    have HB := Lib.hid (bthen H1.out.2 hb)
    clear hb
    go_wp2_with fail
    go_ret2
    exact ⟨by rw [HV.out.2]; rfl, HB.out⟩
theorem specCgText_any (m a c : Int) (w : World) : Calls Tryd.prog 16 #[.agg #[.int .i64 m, .int .i64 a, .int .i64 c]] w fun e w' => e = .returned (cgV m a c) ∧ Below w.heap.size w w' := by
  have H0 := Lib.hid (And.intro (G3.new w 42 m a c) ((Below.refl _ w).alloc (Nat.le_refl _) (.cells #[.int .i64 m, .int .i64 a, .int .i64 c] 42)))
  cases hv : cgOk m a c with
  | false =>
    have HV := Lib.hid (And.intro hv (show cgV m a c = .tuple #[.string { data := #[] }, .bool false] by unfold cgV; rw [hv]; rfl))
    clear hv
    go_enter Tryd.func16, Tryd.ntmps16
    go_wp2_with fail
    refine (l03Is_any _ _ _ _ _ H0.out.1).mono ?_
    rintro e w1 ⟨rfl, hb⟩
    rw [HV.out.1]
    have HB := Lib.hid (bthen H0.out.2 hb)
    clear hb
    go_wp2_with fail
    go_ret2
    exact ⟨by rw [HV.out.2]; rfl, HB.out⟩
  | true =>
    have HV := Lib.hid (And.intro hv (show cgV m a c = .tuple #[.string (jnB [itB m, itB a, itB c] { data := #[44] }), .bool true] by unfold cgV; rw [hv]; rfl))
    have hbd := cg_bd hv
    clear hv
    go_enter Tryd.func16, Tryd.ntmps16
    go_wp2_with fail
    refine (l03Is_any _ _ _ _ _ H0.out.1).mono ?_
    rintro e w1 ⟨rfl, hb⟩
    rw [HV.out.1]
    have H1 := Lib.hid (And.intro (H0.out.1.all hb) (bthen H0.out.2 hb))
    clear hb H0
    go_wp2_with fail
    refine (l03Text_any m a c _ _ H1.out.1 (by omega) (by omega) (by omega)).mono ?_
    rintro e w2 ⟨rfl, hb⟩
    have HB := Lib.hid (bthen H1.out.2 hb)
    clear hb
    go_wp2_with fail
    go_ret2
    exact ⟨by rw [HV.out.2]; rfl, HB.out⟩
theorem toCg_any (m a c : Int) (w : World) : Calls Tryd.prog 17 #[.agg #[.int .i64 m, .int .i64 a, .int .i64 c]] w (Ret w (.agg #[.int .i64 m, .int .i64 a, .int .i64 c])) := by
  go_enter Tryd.func17, Tryd.ntmps17
  go_wp2
  refine bodyPost_ret (v := .agg #[.int .i64 m, .int .i64 a, .int .i64 c]) (by simp [results, Tryd.results17, go_sem]) rfl ⟨rfl, ?_⟩
  exact (((Below.refl _ w).alloc (Nat.le_refl _) _).alloc (by simp) _).alloc (by simp; omega) _
set_option maxRecDepth 20000 in
theorem fnExactCongruenceText_walk (m a c : Int) (w : World) (ht : TabT w) :
    Calls Tryd.prog 5 #[.agg #[.int .i64 m, .int .i64 a, .int .i64 c]] w fun e w' => e = .returned (.bool true) ∧ Below w.heap.size w w' := by
  have H0 := Lib.hid (And.intro (G3.new w 40 m a c) ((Below.refl _ w).alloc (Nat.le_refl _) (.cells #[.int .i64 m, .int .i64 a, .int .i64 c] 40)))
  have HT := Lib.hid ht
  clear ht
  obtain ⟨s, b, hf⟩ := cgV_form m a c
  have HI := Lib.hid (fun w ht => cgText_any m a c w ht)
  have HS := Lib.hid (fun w => specCgText_any m a c w)
  rw [hf] at HI HS
  clear hf
  go_enter Tryd.func5, Tryd.ntmps5
  go_wp2_with fail
  refine (toCg_any m a c _).mono ?_
  rintro e w1 ⟨rfl, hb⟩
  have H1 := Lib.hid (And.intro (H0.out.1.all hb) (bthen H0.out.2 hb))
  clear hb H0
  obtain ⟨y0, y1, y2, y3⟩ := H1.out.1
  go_wp2_with fail
  refine (HS.out _).mono ?_
  rintro e w2 ⟨rfl, hb⟩
  have H2 := Lib.hid (And.intro (H1.out.1.all hb) (bthen H1.out.2 hb))
  clear hb H1 y0 y1 y2 y3
  obtain ⟨y0, y1, y2, y3⟩ := H2.out.1
  go_wp2_with fail
  refine (toCg_any m a c _).mono ?_
  rintro e w3 ⟨rfl, hb⟩
  have H3 := Lib.hid (And.intro (H2.out.1.all hb) (bthen H2.out.2 hb))
  clear hb H2 y0 y1 y2 y3
  go_wp2_with fail
  refine (HI.out _ (HT.out.below H3.out.2)).mono ?_
  rintro e w4 ⟨rfl, hb⟩
  have HB := Lib.hid (bthen H3.out.2 hb)
  clear hb
  go_wp2
  go_ret
  exact ⟨rfl, HB.out⟩
end Go.Proofs.YtpineiocjaajnaaDoor

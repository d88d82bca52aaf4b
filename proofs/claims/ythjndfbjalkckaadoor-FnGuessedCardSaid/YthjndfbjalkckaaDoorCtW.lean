import Derived.Test.YthjndfbjalkckaaDoorDec
import Derived.Test.YthjndfbjalkckaaDoorCgV
import Derived.Test.YthjndfbjalkckaaDoorAnyK
import Derived.Lib.Join
import Derived.Lib.AppendIntMem
/- The text of a congruence: the law FnExactCongruenceText. Condition: the table of powers of ten is laid. -/
namespace Go.Proofs.YthjndfbjalkckaaDoor
open Go.RowKit
set_option linter.unusedVariables false

/-- The table of powers of ten is laid. -/
def TabT (w : World) : Prop := Lib.TabIs Tryd.prog w "internal/strconv.uint64pow10" .u64 Lib.pow10Tab
theorem TabT.below {w w' : World} (h : TabT w) (hb : Below w.heap.size w w') : TabT w' := (Lib.tabBelow_of_tabIs h) w' hb
theorem decimal_any (n : Int) (w : World) (hl : -9223372036854775808 ≤ n) (hr : n ≤ 9223372036854775807) (ht : TabT w) :
    Calls Tryd.prog 52 #[.int .i64 n] w fun e w' => e = .returned (.string (itB n)) ∧ Below w.heap.size w w' := by
  have HF := Lib.hid (Tryd.strconv_FormatInt_10 n hl hr w ht)
  go_enter Tryd.func52, Tryd.ntmps52
  go_wp2_with fail
  refine HF.out.mono ?_
  rintro e w1 ⟨rfl, k, os, hw1⟩
  have HB := Lib.hid (show Below w.heap.size w w1 by rw [hw1]; exact Lib.below_grow w.heap.size w (Nat.le_refl _) k os)
  clear hw1
  go_wp2_with fail
  go_ret
  exact ⟨rfl, HB.out⟩
/-- Texts joined. -/
def jnB (zs : List ByteArray) (sep : ByteArray) : ByteArray := ⟨(Lib.join (zs.map (·.data.toList)) sep.data.toList).toArray⟩
theorem jn_len {B : Nat} (sep : List UInt8) : ∀ (xs : List (List UInt8)), (∀ x ∈ xs, x.length ≤ B) → (Lib.join xs sep).length ≤ xs.length * (B + sep.length)
  | [], _ => by simp [Lib.join_nil]
  | x :: r, h => by
    rw [Lib.join_cons, List.length_append]
    have h1 := h x List.mem_cons_self
    have h2 : (Lib.joinTail sep r).length ≤ r.length * (B + sep.length) := by
      unfold Lib.joinTail
      have h3 : ∀ y ∈ r, y.length ≤ B := fun y hy => h y (List.mem_cons_of_mem _ hy)
      clear h h1
      induction r with
      | nil => simp
      | cons y r ih =>
        have h4 := h3 y List.mem_cons_self
        have h5 := ih (fun z hz => h3 z (List.mem_cons_of_mem _ hz))
        rw [List.map_cons, List.flatten_cons, List.length_append, List.length_append, List.length_cons, Nat.succ_mul]
        omega
    rw [List.length_cons, Nat.succ_mul]
    omega
/-- A list of texts of the call's own that grows. -/
def StrA (w0 wr : World) (v : Value) (zs : List ByteArray) : Prop := GrowAt w0 wr 9 v zs.length (zs.map Value.string)
theorem StrA.shape {w0 wr : World} {v : Value} {zs : List ByteArray} (h : StrA w0 wr v zs) (h0 : 0 < zs.length) : ∃ g c, v = .slice (some ⟨g, 0, none⟩) zs.length c ∧ zs.length ≤ c ∧ g < wr.heap.size ∧ ∀ (j : Nat) x, zs[j]? = some x → wr.cell? ⟨g, 0 + j, none⟩ = some (.string x) := by
  rcases h.1.2 with ⟨e, h1⟩ | ⟨g, c, cur, e, h1, h2, h3, _⟩
  · omega
  · subst e
    refine ⟨g, c, rfl, h3, lt_of_heap h2, fun j x hj => ?_⟩
    have := h.1.cellAt j (by obtain ⟨h, _⟩ := List.getElem?_eq_some_iff.1 hj; omega)
    rw [Nat.zero_add, this, List.getElem?_map, hj]
    rfl
theorem joinA_any (w0 w : World) (v : Value) (zs : List ByteArray) (sep : ByteArray) (h : StrA w0 w v zs) (h0 : 0 < zs.length) (h1 : zs.length ≤ 1000) (hs : ∀ x ∈ zs, x.size ≤ 1000) (hsep : sep.size ≤ 10) :
    Calls Tryd.prog 53 #[v, .string sep] w fun e w' => e = .returned (.string (jnB zs sep)) ∧ Below w.heap.size w w' := by
  obtain ⟨g, c, rfl, hc, hg, hcell⟩ := h.shape h0
  refine Tryd.strings_Join g 0 c zs sep w hcell hg (by omega) hc ?_
  refine Nat.le_trans (jn_len (B := 1000) sep.data.toList _ ?_) ?_
  · intro x hx
    obtain ⟨y, hy, rfl⟩ := List.mem_map.1 hx
    exact hs y hy
  · rw [List.length_map]
    have : sep.data.toList.length ≤ 10 := hsep
    have := Nat.mul_le_mul h1 (show 1000 + sep.data.toList.length ≤ 1010 by omega)
    omega
theorem StrA.start (w : World) : StrA w (w.alloc (.cells #[] 9)) (.slice (some ⟨w.heap.size, 0, none⟩) 0 0) [] := GrowAt.start w 9
theorem StrA.push {w0 wr w6 : World} {v v' : Value} {zs : List ByteArray} {x : ByteArray} {o : Obj} (h : StrA w0 wr v zs) (hown : w6.ownsRow w0.heap.size 9 1 v' (zs.length + 1) (zs.map Value.string ++ [.string x])) (hg : (wr.alloc o).grownBy w6 v.ownBlock) : StrA w0 w6 v' (zs ++ [x]) := by
  unfold StrA
  rw [List.length_append, List.map_append]
  exact (h.alloc o).push hown hg
/-- The texts of the first numbers. -/
def itL (zs : List Int) (k : Nat) : List ByteArray := (zs.take k).map itB
theorem itL_push {zs : List Int} {k : Nat} (h : k < zs.length) : itL zs k ++ [itB (zs.getD k 0)] = itL zs (k + 1) := by
  unfold itL
  rw [take_snoc _ _ h, List.map_append]
  rfl
theorem itL_len {zs : List Int} {k : Nat} (h : k ≤ zs.length) : (itL zs k).length = k := by simp [itL]; omega
theorem Tryd.infoStrC : (Tryd.prog.info? 9).map (fun i => (i.zero, i.size, i.bytes)) = some (some (.string ⟨#[]⟩), 1, 16) := by kernel_rfl
set_option maxRecDepth 20000 in
set_option maxHeartbeats 1600000 in
theorem listText_any (a : Option Addr) (len cap : Nat) (zs : List Int) (w : World) (h0 : 0 < len) (hl : len ≤ 64) (hx : IsInts w a len zs) (hz : ∀ j, -9223372036854775808 ≤ zs.getD j 0 ∧ zs.getD j 0 ≤ 9223372036854775807) (ht : TabT w) :
    Calls Tryd.prog 38 #[.slice a len cap] w fun e w' => e = .returned (.string (jnB (zs.map itB) { data := #[44] })) ∧ Below w.heap.size w w' := by
  have HX := Lib.hid hx
  have HZ := Lib.hid hz
  have HT := Lib.hid ht
  have hzl := hx.length
  have H0 := Lib.hid (show StrA w (w.alloc (.cells #[] 9)) (.slice (some ⟨w.heap.size, 0, none⟩) 0 0) (itL zs 0) from StrA.start w)
  clear hx hz ht
  go_enter Tryd.func38, Tryd.ntmps38
  go_wp2_with fail
  go_loopw [9, 3] (fun i v wr => ∃ (k : Nat) (s : Option Addr) (c : Nat), k ≤ len ∧ i = .int .i64 (k : Nat) ∧ v = .slice s k c ∧ Hid (StrA w wr (.slice s k c) (itL zs k))) (fun i _ _ => len - (intOf i).toNat)
  case atStart => exact ⟨0, _, _, Nat.zero_le _, rfl, rfl, H0⟩
  case round =>
    clear H0
    obtain ⟨k, s, c, hk, rfl, rfl, HG⟩ := hrel
    by_cases hlt : k < len
    · have hki : (k : Int) < (len : Int) := by omega
      have hk0 : (0 : Int) ≤ (k : Int) := by omega
      obtain ⟨b, off, rfl, cc⟩ := (HX.out.below HG.out.2).at hlt
      have hzb := HZ.out k
      have HP := Lib.hid (itL_push (zs := zs) (k := k) (by omega))
      have HL := Lib.hid (itL_len (zs := zs) (k := k) (by omega))
      obtain ⟨z, hz⟩ : ∃ z, zs.getD k 0 = z := ⟨_, rfl⟩
      rw [hz] at cc hzb HP
      clear hz
      go_wp2_with fail
      refine (decimal_any z _ hzb.1 hzb.2 (HT.out.below HG.out.2)).mono ?_
      rintro e w2 ⟨rfl, hb⟩
      have HG2 := Lib.hid (show StrA w w2 (.slice s k c) (itL zs k) from HG.out.ret hb)
      have hsz := HG2.out.2.size
      clear hb HG cc
      obtain ⟨y, hy⟩ : ∃ y, itB z = y := ⟨_, rfl⟩
      rw [hy] at HP ⊢
      clear hy
      have how := (HG2.out.alloc (.cells #[.string y] 9)).1
      rw [HL.out] at how
      have HOW := Lib.hid how
      clear how
      go_wp2_with (at_builtin; refine wpList_ap1 rfl (.tmp 13) (.tmp 16) 60 rfl w.heap.size 9 (.string ⟨#[]⟩) 16 Tryd.underlying60 Tryd.infoStrC rfl _ k _ rfl HOW.out _ (.string y) rfl (by go_simp) rfl (by omega) (by omega) (by simp only [alloc_size]; omega) ?_)
      intro v' w6 hown hgrow _
      obtain ⟨a6, c6, rfl⟩ := own_form hown
      have HG3 := Lib.hid (show StrA w w6 (.slice a6 (k + 1) c6) (itL zs (k + 1)) by
        rw [← HP.out]
        exact HG2.out.push (by rw [HL.out]; exact hown) hgrow)
      clear hown hgrow HOW HG2
      go_wp2_with fail
      go_roundw
      case rel => exact ⟨k + 1, a6, c6, by omega, by go_num, rfl, HG3⟩
      case measure => simp [intOf] <;> omega
    · obtain rfl : k = len := by omega
      have hki : ¬ (k : Int) < (k : Int) := by omega
      have hk0 : ¬ (k : Int) = 0 := by omega
      have e : itL zs k = zs.map itB := by unfold itL; rw [List.take_of_length_le (by omega)]
      have HG4 := HG
      rw [e] at HG4
      have HJ := Lib.hid (joinA_any w wr _ (zs.map itB) { data := #[44] } HG4.out (by rw [List.length_map]; omega) (by rw [List.length_map]; omega) (fun x hx => by
        obtain ⟨y, hy, rfl⟩ := List.mem_map.1 hx
        obtain ⟨j, hj, e2⟩ := List.getElem_of_mem hy
        have := HZ.out j
        rw [List.getD, List.getElem?_eq_getElem hj, e2] at this
        simp only [Option.getD_some] at this
        exact Nat.le_trans (itB_size (by omega)) (by omega)) (by decide))
      clear e
      go_wp2_with fail
      refine HJ.out.mono ?_
      rintro e w2 ⟨rfl, hb⟩
      have HB := Lib.hid (bthen HG.out.2 hb)
      clear hb
      go_wp2_with fail
      go_ret
      exact ⟨rfl, HB.out⟩
theorem jn_three (X Y Z : ByteArray) : X ++ { data := #[44] } ++ Y ++ { data := #[44] } ++ Z = jnB [X, Y, Z] { data := #[44] } := by
  apply ByteArray.ext
  apply Array.toList_inj.1
  simp [jnB, Lib.join_cons, Lib.joinTail]
/-- What both texts are. -/
def cgV (m a c : Int) : Value := if cgOk m a c then .tuple #[.string (jnB [itB m, itB a, itB c] { data := #[44] }), .bool true] else .tuple #[.string { data := #[] }, .bool false]
theorem cgV_form (m a c : Int) : ∃ s b, cgV m a c = .tuple #[.string s, .bool b] := by unfold cgV; split <;> exact ⟨_, _, rfl⟩
set_option maxRecDepth 20000 in
theorem cgText_any (m a c : Int) (w : World) (ht : TabT w) : Calls Tryd.prog 16 #[.agg #[.int .i64 m, .int .i64 a, .int .i64 c]] w fun e w' => e = .returned (cgV m a c) ∧ Below w.heap.size w w' := by
  have H0 := Lib.hid (And.intro (G3.new w 23 m a c) ((Below.refl _ w).alloc (Nat.le_refl _) (.cells #[.int .i64 m, .int .i64 a, .int .i64 c] 23)))
  have HT := Lib.hid ht
  clear ht
  cases hv : cgOk m a c with
  | false =>
    have HV := Lib.hid (And.intro hv (show cgV m a c = .tuple #[.string { data := #[] }, .bool false] by unfold cgV; rw [hv]; rfl))
    clear hv
    go_enter Tryd.func16, Tryd.ntmps16
    go_wp2_with fail
    refine (validCg_any _ _ _ _).mono ?_
    rintro e w1 ⟨rfl, hb⟩
    rw [HV.out.1]
    have HB := Lib.hid (bthen H0.out.2 hb)
    clear hb
    go_wp2_with fail
    go_ret2
    exact ⟨by rw [HV.out.2]; rfl, HB.out⟩
  | true =>
    have HV := Lib.hid (And.intro hv (show cgV m a c = .tuple #[.string (jnB [itB m, itB a, itB c] { data := #[44] }), .bool true] by unfold cgV; rw [hv]; rfl))
    have hbd := cg_bd hv
    clear hv
    go_enter Tryd.func16, Tryd.ntmps16
    go_wp2_with fail
    refine (validCg_any _ _ _ _).mono ?_
    rintro e w1 ⟨rfl, hb⟩
    rw [HV.out.1]
    have H1 := Lib.hid (And.intro (H0.out.1.all hb) (bthen H0.out.2 hb))
    clear hb H0
    obtain ⟨y0, y1, y2, y3⟩ := H1.out.1
    have HL := Lib.hid (show Calls Tryd.prog 38 #[.slice (some ⟨w1.heap.size, 0, none⟩) 3 3] (w1.alloc (.cells #[.int .i64 m, .int .i64 a, .int .i64 c] 2)) fun e w' => e = .returned (.string (jnB [itB m, itB a, itB c] { data := #[44] })) ∧ Below w1.heap.size w1 w' by
      have hA := (Below.refl _ w1).alloc (Nat.le_refl _) (.cells #[.int .i64 m, .int .i64 a, .int .i64 c] 2)
      have g := G3.new w1 2 m a c
      refine (listText_any _ 3 3 [m, a, c] _ (by omega) (by omega) ⟨rfl, fun j hj => ⟨_, _, rfl, ?_⟩⟩ (fun j => ?_) (HT.out.below (bthen H1.out.2 hA))).mono ?_
      · rcases (show j = 0 ∨ j = 1 ∨ j = 2 by omega) with rfl | rfl | rfl
        · exact g.c0
        · exact g.c1
        · exact g.c2
      · rcases (show j = 0 ∨ j = 1 ∨ j = 2 ∨ 3 ≤ j by omega) with rfl | rfl | rfl | h
        · simp; omega
        · simp; omega
        · simp; omega
        · have : ([m, a, c].getD j 0) = 0 := by rw [List.getD, List.getElem?_eq_none (by simp; omega)]; rfl
          rw [this]; omega
      · rintro e w' ⟨rfl, hb⟩
        exact ⟨rfl, bthen hA hb⟩)
    go_wp2_with fail
    refine HL.out.mono ?_
    rintro e w2 ⟨rfl, hb⟩
    have HB := Lib.hid (bthen H1.out.2 hb)
    clear hb
    go_wp2_with fail
    go_ret2
    exact ⟨by rw [HV.out.2]; rfl, HB.out⟩
end Go.Proofs.YthjndfbjalkckaaDoor

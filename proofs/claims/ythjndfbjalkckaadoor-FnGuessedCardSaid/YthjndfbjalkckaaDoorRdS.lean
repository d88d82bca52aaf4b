import Derived.Test.YthjndfbjalkckaaDoorRdL
import Derived.BigRegion
/- Reading a congruence: program and reference. Conditions: the tables and the two errors are laid; the text has at most 2 ^ 20 bytes. -/
namespace Go.Proofs.YthjndfbjalkckaaDoor
open Go.RowKit
set_option linter.unusedVariables false

/-- Three numbers in a block that may be written. -/
structure R3 (w : World) (b : Nat) (m a c : Int) : Prop where
  c0 : w.cell? ⟨b, 0, none⟩ = some (.int .i64 m)
  c1 : w.cell? ⟨b, 1, none⟩ = some (.int .i64 a)
  c2 : w.cell? ⟨b, 2, none⟩ = some (.int .i64 c)
  f0 : w.frozen? ⟨b, 0, none⟩ = false
  f1 : w.frozen? ⟨b, 1, none⟩ = false
  f2 : w.frozen? ⟨b, 2, none⟩ = false
  lt : b < w.heap.size
theorem R3.all {w w' : World} {b : Nat} {m a c : Int} (h : R3 w b m a c) (hb : Below w.heap.size w w') : R3 w' b m a c :=
  ⟨(hb.cell (p := ⟨b, 0, none⟩) h.lt).trans h.c0, (hb.cell (p := ⟨b, 1, none⟩) h.lt).trans h.c1, (hb.cell (p := ⟨b, 2, none⟩) h.lt).trans h.c2, (hb.frozen (p := ⟨b, 0, none⟩) h.lt).trans h.f0, (hb.frozen (p := ⟨b, 1, none⟩) h.lt).trans h.f1, (hb.frozen (p := ⟨b, 2, none⟩) h.lt).trans h.f2, Nat.lt_of_lt_of_le h.lt hb.size⟩
theorem R3.new (w : World) (t : Nat) (m a c : Int) : R3 (w.alloc (.cells #[.int .i64 m, .int .i64 a, .int .i64 c] t (0, 0))) w.heap.size m a c := by
  have h := heap_at_new w (.cells #[.int .i64 m, .int .i64 a, .int .i64 c] t (0, 0))
  refine ⟨?_, ?_, ?_, ?_, ?_, ?_, by simp⟩ <;> first | (simp only [World.cell?, h]; rfl) | (simp only [World.frozen?, h]; rfl)
def cgA (m a c : Int) (ok : Bool) : Value := .tuple #[.agg #[.int .i64 m, .int .i64 a, .int .i64 c], .bool ok]
/-- What reading a congruence answers. -/
def rcV (o : Option (List Int)) : Value := match o with
  | none => cgA 0 0 0 false
  | some zs => if zs.length = 3 then (if cgOk (zs.getD 0 0) (zs.getD 1 0) (zs.getD 2 0) then cgA (zs.getD 0 0) (zs.getD 1 0) (zs.getD 2 0) true else cgA 0 0 0 false) else cgA 0 0 0 false
theorem rcV_form (o : Option (List Int)) : ∃ m a c ok, rcV o = cgA m a c ok := by
  unfold rcV
  split
  · exact ⟨_, _, _, _, rfl⟩
  · split
    · split <;> exact ⟨_, _, _, _, rfl⟩
    · exact ⟨_, _, _, _, rfl⟩
set_option maxRecDepth 20000 in
set_option maxHeartbeats 3200000 in
theorem readCg_any (s : ByteArray) (w : World) (hs : s.size ≤ 1048576) (hg : GlobE w) : Calls Tryd.prog 6 #[.string s] w fun e w' => e = .returned (rcV (numsL s.data.toList)) ∧ Below w.heap.size w w' := by
  have H0 := Lib.hid (And.intro (R3.new w 23 0 0 0) ((Below.refl _ w).alloc (Nat.le_refl _) (.cells #[.int .i64 0, .int .i64 0, .int .i64 0] 23)))
  have HL := Lib.hid (fun w h => readList_any s w hs h)
  have HG := Lib.hid hg
  clear hg
  obtain ⟨o, ho⟩ : ∃ o, numsL s.data.toList = o := ⟨_, rfl⟩
  rw [ho] at HL ⊢
  clear ho
  go_enter Tryd.func6, Tryd.ntmps6
  go_wp2_with fail
  obtain ⟨wA, hwA⟩ : ∃ w', w.alloc (.cells #[.int .i64 0, .int .i64 0, .int .i64 0] 23 (0, 0)) = w' := ⟨_, rfl⟩
  rw [hwA] at H0 ⊢
  clear hwA
  obtain ⟨B0, hB0⟩ : ∃ b, w.heap.size = b := ⟨_, rfl⟩
  rw [hB0] at H0 ⊢
  have HBL := Lib.hid (show w.heap.size ≤ B0 by omega)
  refine (HL.out _ (HG.out.below (by rw [hB0]; exact H0.out.2))).mono ?_
  clear HL
  intro e w1 hr
  cases o with
  | none =>
    obtain ⟨rfl, hb⟩ := hr
    have HR := Lib.hid (And.intro (H0.out.1.all hb) (bthen (by rw [hB0]; exact H0.out.2) hb))
    clear hb
    obtain ⟨y0, y1, y2, z0, z1, z2, hlt⟩ := HR.out.1
    go_wp2_with fail
    refine bodyPost_ret (v := cgA 0 0 0 false) (by simp [cgA, results, Tryd.results6, go_sem, *]) rfl ?_
    exact ⟨rfl, by first | exact HR.out.2 | exact ((HR.out.2.setCell (p := ⟨B0, 0, none⟩) HBL.out _).setCell (p := ⟨B0, 1, none⟩) HBL.out _).setCell (p := ⟨B0, 2, none⟩) HBL.out _⟩
  | some zs =>
    obtain ⟨a, c, rfl, hx, hb, hz⟩ := hr
    have HR := Lib.hid (And.intro (H0.out.1.all hb) (bthen (by rw [hB0]; exact H0.out.2) hb))
    clear hb
    obtain ⟨y0, y1, y2, z0, z1, z2, hlt⟩ := HR.out.1
    by_cases h3 : zs.length = 3
    · obtain ⟨b, off, rfl, k0⟩ := hx.at (show 0 < zs.length by omega)
      obtain ⟨b1, off1, e1, k1⟩ := hx.at (show 1 < zs.length by omega)
      obtain ⟨b2, off2, e2, k2⟩ := hx.at (show 2 < zs.length by omega)
      simp only [Option.some.injEq, Addr.mk.injEq] at e1 e2
      obtain ⟨rfl, rfl, _⟩ := e1
      obtain ⟨rfl, rfl, _⟩ := e2
      have HV := Lib.hid (show rcV (some zs) = _ from if_pos h3)
      obtain ⟨m, hm⟩ : ∃ m, zs.getD 0 0 = m := ⟨_, rfl⟩
      obtain ⟨f, hf⟩ : ∃ m, zs.getD 1 0 = m := ⟨_, rfl⟩
      obtain ⟨d, hd⟩ : ∃ m, zs.getD 2 0 = m := ⟨_, rfl⟩
      rw [hm] at k0 HV
      rw [hf] at k1 HV
      rw [hd] at k2 HV
      rw [Nat.add_zero] at k0
      rw [h3]
      clear hx hm hf hd h3
      have hbl := World.block_lt_of_cell? _ _ k0
      have hbn : ¬ b = w1.heap.size := by simp only at hbl; omega
      go_upto_region 4 with fail
      go_region
      have HB2 := Lib.hid (show Below w1.heap.size w1 (w1.alloc (.cells #[.int .i64 m, .int .i64 f, .int .i64 d] 23 (0, 0))).drew from ((Below.refl _ w1).alloc (Nat.le_refl _) _).drew)
      have HN := Lib.hid (show R3 (w1.alloc (.cells #[.int .i64 m, .int .i64 f, .int .i64 d] 23 (0, 0))).drew w1.heap.size m f d from (R3.new w1 23 m f d).all (Below.refl _ _).drew)
      go_wp2_with fail
      obtain ⟨w2, hw2⟩ : ∃ w2, (w1.alloc (.cells #[.int .i64 m, .int .i64 f, .int .i64 d] 23 (0, 0))).drew = w2 := ⟨_, rfl⟩
      obtain ⟨B1, hB1⟩ : ∃ b, w1.heap.size = b := ⟨_, rfl⟩
      rw [hw2] at HB2 HN ⊢
      have HR2 := Lib.hid (And.intro (HR.out.1.all HB2.out) (bthen HR.out.2 HB2.out))
      rw [hB1] at HN ⊢
      clear hw2 hB1 HB2 HR y0 y1 y2 z0 z1 z2 hlt k0 k1 k2 hbl hbn
      refine (validCg_any m f d _).mono ?_
      rintro e w3 ⟨rfl, hb3⟩
      have HN3 := Lib.hid (HN.out.all hb3)
      have HR3 := Lib.hid (And.intro (HR2.out.1.all hb3) (bthen HR2.out.2 hb3))
      clear hb3 HN HR2
      obtain ⟨y0, y1, y2, z0, z1, z2, hlt⟩ := HR3.out.1
      obtain ⟨x0, x1, x2, v0, v1, v2, hlx⟩ := HN3.out
      cases hc : cgOk m f d with
      | false =>
        have HF := Lib.hid (show rcV (some zs) = cgA 0 0 0 false by rw [HV.out, hc]; rfl)
        clear hc
        go_wp2_with fail
        refine bodyPost_ret (v := cgA 0 0 0 false) (by simp [cgA, results, Tryd.results6, go_sem, *]) rfl ?_
        exact ⟨by rw [HF.out], by first | exact HR3.out.2 | exact ((HR3.out.2.setCell (p := ⟨B0, 0, none⟩) HBL.out _).setCell (p := ⟨B0, 1, none⟩) HBL.out _).setCell (p := ⟨B0, 2, none⟩) HBL.out _⟩
      | true =>
        have HF := Lib.hid (show rcV (some zs) = cgA m f d true by rw [HV.out, hc]; rfl)
        clear hc
        go_wp2_with fail
        refine bodyPost_ret (v := cgA m f d true) (by simp [cgA, results, Tryd.results6, go_sem, *]) rfl ?_
        exact ⟨by rw [HF.out], by first | exact HR3.out.2 | exact ((HR3.out.2.setCell (p := ⟨B0, 0, none⟩) HBL.out _).setCell (p := ⟨B0, 1, none⟩) HBL.out _).setCell (p := ⟨B0, 2, none⟩) HBL.out _⟩
    · have hz3 : ¬ (zs.length : Int) = 3 := by omega
      have HV := Lib.hid (show rcV (some zs) = cgA 0 0 0 false from if_neg h3)
      clear h3 hx
      go_wp2_with fail
      refine bodyPost_ret (v := cgA 0 0 0 false) (by simp [cgA, results, Tryd.results6, go_sem, *]) rfl ?_
      exact ⟨by rw [HV.out], by first | exact HR.out.2 | exact ((HR.out.2.setCell (p := ⟨B0, 0, none⟩) HBL.out _).setCell (p := ⟨B0, 1, none⟩) HBL.out _).setCell (p := ⟨B0, 2, none⟩) HBL.out _⟩
set_option maxRecDepth 20000 in
set_option maxHeartbeats 3200000 in
theorem l03Read_any (s : ByteArray) (w : World) (hs : s.size ≤ 1048576) : Calls Tryd.prog 20 #[.string s] w fun e w' => e = .returned (rcV (numsL s.data.toList)) ∧ Below w.heap.size w w' := by
  have H0 := Lib.hid (And.intro (R3.new w 23 0 0 0) ((Below.refl _ w).alloc (Nat.le_refl _) (.cells #[.int .i64 0, .int .i64 0, .int .i64 0] 23)))
  have HL := Lib.hid (fun w => l01Numbers_any s w hs)
  obtain ⟨o, ho⟩ : ∃ o, numsL s.data.toList = o := ⟨_, rfl⟩
  rw [ho] at HL ⊢
  clear ho
  go_enter Tryd.func20, Tryd.ntmps20
  go_wp2_with fail
  obtain ⟨wA, hwA⟩ : ∃ w', w.alloc (.cells #[.int .i64 0, .int .i64 0, .int .i64 0] 23 (0, 0)) = w' := ⟨_, rfl⟩
  rw [hwA] at H0 ⊢
  clear hwA
  obtain ⟨B0, hB0⟩ : ∃ b, w.heap.size = b := ⟨_, rfl⟩
  rw [hB0] at H0 ⊢
  have HBL := Lib.hid (show w.heap.size ≤ B0 by omega)
  refine (HL.out _).mono ?_
  clear HL
  intro e w1 hr
  cases o with
  | none =>
    obtain ⟨rfl, hb⟩ := hr
    have HR := Lib.hid (And.intro (H0.out.1.all hb) (bthen (by rw [hB0]; exact H0.out.2) hb))
    clear hb
    obtain ⟨y0, y1, y2, z0, z1, z2, hlt⟩ := HR.out.1
    go_wp2_with fail
    refine bodyPost_ret (v := cgA 0 0 0 false) (by simp [cgA, results, Tryd.results20, go_sem, *]) rfl ?_
    exact ⟨rfl, by first | exact HR.out.2 | exact ((HR.out.2.setCell (p := ⟨B0, 0, none⟩) HBL.out _).setCell (p := ⟨B0, 1, none⟩) HBL.out _).setCell (p := ⟨B0, 2, none⟩) HBL.out _⟩
  | some zs =>
    obtain ⟨a, c, rfl, hx, hb, hz⟩ := hr
    have HR := Lib.hid (And.intro (H0.out.1.all hb) (bthen (by rw [hB0]; exact H0.out.2) hb))
    clear hb
    obtain ⟨y0, y1, y2, z0, z1, z2, hlt⟩ := HR.out.1
    by_cases h3 : zs.length = 3
    · obtain ⟨b, off, rfl, k0⟩ := hx.at (show 0 < zs.length by omega)
      obtain ⟨b1, off1, e1, k1⟩ := hx.at (show 1 < zs.length by omega)
      obtain ⟨b2, off2, e2, k2⟩ := hx.at (show 2 < zs.length by omega)
      simp only [Option.some.injEq, Addr.mk.injEq] at e1 e2
      obtain ⟨rfl, rfl, _⟩ := e1
      obtain ⟨rfl, rfl, _⟩ := e2
      have HV := Lib.hid (show rcV (some zs) = _ from if_pos h3)
      obtain ⟨m, hm⟩ : ∃ m, zs.getD 0 0 = m := ⟨_, rfl⟩
      obtain ⟨f, hf⟩ : ∃ m, zs.getD 1 0 = m := ⟨_, rfl⟩
      obtain ⟨d, hd⟩ : ∃ m, zs.getD 2 0 = m := ⟨_, rfl⟩
      rw [hm] at k0 HV
      rw [hf] at k1 HV
      rw [hd] at k2 HV
      rw [Nat.add_zero] at k0
      rw [h3]
      clear hx hm hf hd h3
      have hbl := World.block_lt_of_cell? _ _ k0
      have hbn : ¬ b = w1.heap.size := by simp only at hbl; omega
      go_upto_region 4 with fail
      go_region
      have HB2 := Lib.hid (show Below w1.heap.size w1 (w1.alloc (.cells #[.int .i64 m, .int .i64 f, .int .i64 d] 23 (0, 0))).drew from ((Below.refl _ w1).alloc (Nat.le_refl _) _).drew)
      have HN := Lib.hid (show R3 (w1.alloc (.cells #[.int .i64 m, .int .i64 f, .int .i64 d] 23 (0, 0))).drew w1.heap.size m f d from (R3.new w1 23 m f d).all (Below.refl _ _).drew)
      go_wp2_with fail
      obtain ⟨w2, hw2⟩ : ∃ w2, (w1.alloc (.cells #[.int .i64 m, .int .i64 f, .int .i64 d] 23 (0, 0))).drew = w2 := ⟨_, rfl⟩
      obtain ⟨B1, hB1⟩ : ∃ b, w1.heap.size = b := ⟨_, rfl⟩
      rw [hw2] at HB2 HN ⊢
      have HR2 := Lib.hid (And.intro (HR.out.1.all HB2.out) (bthen HR.out.2 HB2.out))
      rw [hB1] at HN ⊢
      clear hw2 hB1 HB2 HR y0 y1 y2 z0 z1 z2 hlt k0 k1 k2 hbl hbn
      refine (l03Is_any m f d _ _ ⟨HN.out.c0, HN.out.c1, HN.out.c2, HN.out.lt⟩).mono ?_
      rintro e w3 ⟨rfl, hb3⟩
      have HN3 := Lib.hid (HN.out.all hb3)
      have HR3 := Lib.hid (And.intro (HR2.out.1.all hb3) (bthen HR2.out.2 hb3))
      clear hb3 HN HR2
      obtain ⟨y0, y1, y2, z0, z1, z2, hlt⟩ := HR3.out.1
      obtain ⟨x0, x1, x2, v0, v1, v2, hlx⟩ := HN3.out
      cases hc : cgOk m f d with
      | false =>
        have HF := Lib.hid (show rcV (some zs) = cgA 0 0 0 false by rw [HV.out, hc]; rfl)
        clear hc
        go_wp2_with fail
        refine bodyPost_ret (v := cgA 0 0 0 false) (by simp [cgA, results, Tryd.results20, go_sem, *]) rfl ?_
        exact ⟨by rw [HF.out], by first | exact HR3.out.2 | exact ((HR3.out.2.setCell (p := ⟨B0, 0, none⟩) HBL.out _).setCell (p := ⟨B0, 1, none⟩) HBL.out _).setCell (p := ⟨B0, 2, none⟩) HBL.out _⟩
      | true =>
        have HF := Lib.hid (show rcV (some zs) = cgA m f d true by rw [HV.out, hc]; rfl)
        clear hc
        go_wp2_with fail
        refine bodyPost_ret (v := cgA m f d true) (by simp [cgA, results, Tryd.results20, go_sem, *]) rfl ?_
        exact ⟨by rw [HF.out], by first | exact HR3.out.2 | exact ((HR3.out.2.setCell (p := ⟨B0, 0, none⟩) HBL.out _).setCell (p := ⟨B0, 1, none⟩) HBL.out _).setCell (p := ⟨B0, 2, none⟩) HBL.out _⟩
    · have hz3 : ¬ (zs.length : Int) = 3 := by omega
      have HV := Lib.hid (show rcV (some zs) = cgA 0 0 0 false from if_neg h3)
      clear h3 hx
      go_wp2_with fail
      refine bodyPost_ret (v := cgA 0 0 0 false) (by simp [cgA, results, Tryd.results20, go_sem, *]) rfl ?_
      exact ⟨by rw [HV.out], by first | exact HR.out.2 | exact ((HR.out.2.setCell (p := ⟨B0, 0, none⟩) HBL.out _).setCell (p := ⟨B0, 1, none⟩) HBL.out _).setCell (p := ⟨B0, 2, none⟩) HBL.out _⟩
theorem specReadCg_any (s : ByteArray) (w : World) (hs : s.size ≤ 1048576) : Calls Tryd.prog 5 #[.string s] w fun e w' => e = .returned (rcV (numsL s.data.toList)) ∧ Below w.heap.size w w' := by
  have H0 := Lib.hid (And.intro (R3.new w 23 0 0 0) ((Below.refl _ w).alloc (Nat.le_refl _) (.cells #[.int .i64 0, .int .i64 0, .int .i64 0] 23)))
  have HL := Lib.hid (fun w => l03Read_any s w hs)
  obtain ⟨m, a, c, ok, hv⟩ := rcV_form (numsL s.data.toList)
  rw [hv] at HL ⊢
  clear hv
  go_enter Tryd.func5, Tryd.ntmps5
  go_wp2_with fail
  obtain ⟨wA, hwA⟩ : ∃ w', w.alloc (.cells #[.int .i64 0, .int .i64 0, .int .i64 0] 23 (0, 0)) = w' := ⟨_, rfl⟩
  rw [hwA] at H0 ⊢
  clear hwA
  obtain ⟨B0, hB0⟩ : ∃ b, w.heap.size = b := ⟨_, rfl⟩
  rw [hB0] at H0 ⊢
  have HBL := Lib.hid (show w.heap.size ≤ B0 by omega)
  refine (HL.out _).mono ?_
  rintro e w1 ⟨rfl, hb⟩
  have HR := Lib.hid (And.intro (H0.out.1.all hb) (bthen (by rw [hB0]; exact H0.out.2) hb))
  clear hb HL
  obtain ⟨y0, y1, y2, z0, z1, z2, hlt⟩ := HR.out.1
  unfold cgA
  go_wp2_with fail
  refine bodyPost_ret (v := cgA m a c ok) (by simp [cgA, results, Tryd.results5, go_sem, *]) rfl ?_
  exact ⟨rfl, by first | exact HR.out.2 | exact ((HR.out.2.setCell (p := ⟨B0, 0, none⟩) HBL.out _).setCell (p := ⟨B0, 1, none⟩) HBL.out _).setCell (p := ⟨B0, 2, none⟩) HBL.out _⟩
theorem eqCg_same (m a c : Int) (w : World) : Calls Tryd.prog 7 #[.agg #[.int .i64 m, .int .i64 a, .int .i64 c], .agg #[.int .i64 m, .int .i64 a, .int .i64 c]] w fun e w' => e = .returned (.bool true) ∧ Below w.heap.size w w' := by
  have HB := Lib.hid (((Below.refl _ w).alloc (Nat.le_refl _) (.cells #[.int .i64 m, .int .i64 a, .int .i64 c] 23 (0, 0))).alloc (by simp) (.cells #[.int .i64 m, .int .i64 a, .int .i64 c] 23 (0, 0)))
  go_enter Tryd.func7, Tryd.ntmps7
  go_wp2_with fail
  go_ret
  exact ⟨rfl, HB.out⟩
set_option maxRecDepth 20000 in
set_option maxHeartbeats 1600000 in
theorem fnExactReadCongruence_walk (s : ByteArray) (w : World) (hg : GlobE w) :
    Calls Tryd.prog 3 #[.string s] w fun e w' => e = .returned (.bool true) ∧ Below w.heap.size w w' := by
  by_cases hs : s.size ≤ 1048576
  · have H1 := Lib.hid (fun w => specReadCg_any s w hs)
    have H2 := Lib.hid (fun w h => readCg_any s w hs h)
    have HG := Lib.hid hg
    obtain ⟨m, a, c, ok, hv⟩ := rcV_form (numsL s.data.toList)
    rw [hv] at H1 H2
    have hsi : ¬ (1048576 : Int) < (s.size : Int) := by omega
    clear hv hg hs
    go_enter Tryd.func3, Tryd.ntmps3
    go_wp2_with fail
    refine (H1.out _).mono ?_
    rintro e w1 ⟨rfl, hb1⟩
    have HB1 := Lib.hid hb1
    clear hb1
    unfold cgA
    have HN1 := Lib.hid (And.intro (R3.new w1 23 m a c) (HB1.out.alloc HB1.out.size (.cells #[.int .i64 m, .int .i64 a, .int .i64 c] 23 (0, 0))))
    go_wp2_with fail
    obtain ⟨w2, hw2⟩ : ∃ w2, w1.alloc (.cells #[.int .i64 m, .int .i64 a, .int .i64 c] 23 (0, 0)) = w2 := ⟨_, rfl⟩
    obtain ⟨B1, hB1⟩ : ∃ b, w1.heap.size = b := ⟨_, rfl⟩
    rw [hw2, hB1] at HN1
    rw [hw2]
    try rw [hB1]
    clear hw2 hB1 HB1
    refine (H2.out _ (HG.out.below HN1.out.2)).mono ?_
    rintro e w3 ⟨rfl, hb3⟩
    have HN3 := Lib.hid (And.intro (HN1.out.1.all hb3) (bthen HN1.out.2 hb3))
    clear hb3 HN1
    unfold cgA
    have HN4 := Lib.hid (And.intro (HN3.out.1.all ((Below.refl _ w3).alloc (Nat.le_refl _) (.cells #[.int .i64 m, .int .i64 a, .int .i64 c] 23 (0, 0)))) (And.intro (R3.new w3 23 m a c) (HN3.out.2.alloc HN3.out.2.size (.cells #[.int .i64 m, .int .i64 a, .int .i64 c] 23 (0, 0)))))
    go_upto_region 5 with fail
    obtain ⟨w4, hw4⟩ : ∃ w4, w3.alloc (.cells #[.int .i64 m, .int .i64 a, .int .i64 c] 23 (0, 0)) = w4 := ⟨_, rfl⟩
    obtain ⟨B3, hB3⟩ : ∃ b, w3.heap.size = b := ⟨_, rfl⟩
    rw [hw4, hB3] at HN4
    rw [hw4]
    try rw [hB3]
    clear hw4 hB3 HN3
    obtain ⟨⟨y0, y1, y2, _, _, _, _⟩, ⟨x0, x1, x2, _, _, _, _⟩, _⟩ := HN4.out
    go_wp2_with fail
    refine (eqCg_same m a c _).mono ?_
    rintro e w5 ⟨rfl, hb5⟩
    have HB5 := Lib.hid (bthen HN4.out.2.2 hb5)
    clear hb5 HN4 y0 y1 y2 x0 x1 x2
    go_wp2_with fail
    go_ret
    exact ⟨rfl, HB5.out⟩
  · have hsi : (1048576 : Int) < (s.size : Int) := by omega
    go_enter Tryd.func3, Tryd.ntmps3
    go_wp2_with fail
    go_ret
    exact ⟨rfl, Below.refl _ _⟩
end Go.Proofs.YthjndfbjalkckaaDoor

import Derived.Test.YthjndfbjalkckaaDoorRdP
import Derived.Test.YthjndfbjalkckaaDoorRdG
import Derived.Test.YthjndfbjalkckaaDoorCtW
import Derived.Test.YthjndfbjalkckaaDoorChoo
import Derived.Lib.AtoiErrMem
import Derived.Stop.IfaceNil
/- Reading decimal numbers and lists: program and reference. Conditions: the tables and the two errors are laid; the text has at most 2 ^ 20 bytes. -/
namespace Go.Proofs.YthjndfbjalkckaaDoor
open Go.RowKit
set_option linter.unusedVariables false

/-- What lies in the package variables that reading looks at. -/
structure GlobE (w : World) : Prop where
  tab : TabT w
  es : ∃ te pe, w.cell? ⟨1, 0, none⟩ = some (.iface te pe)
  er : ∃ te pe, w.cell? ⟨2, 0, none⟩ = some (.iface te pe)
  ml : ∃ m, w.cell? ⟨0, 0, none⟩ = some (.int .i64 m)
theorem GlobE.below {w w' : World} (h : GlobE w) (hb : Below w.heap.size w w') : GlobE w' := by
  obtain ⟨h1, ⟨a, b, h2⟩, ⟨c, d, h3⟩, ⟨m, h4⟩⟩ := h
  exact ⟨h1.below hb, ⟨a, b, (hb.cell (p := ⟨_, 0, none⟩) (World.block_lt_of_cell? w _ h2)).trans h2⟩, ⟨c, d, (hb.cell (p := ⟨_, 0, none⟩) (World.block_lt_of_cell? w _ h3)).trans h3⟩, ⟨m, (hb.cell (p := ⟨_, 0, none⟩) (World.block_lt_of_cell? w _ h4)).trans h4⟩⟩
/-- What the library's reader gives. -/
def PiR (w : World) (s : ByteArray) (e : Ending) (w' : World) : Prop := ∃ (v : Int) (er : Value), e = .returned (.tuple #[.int .i64 v, er]) ∧ Below w.heap.size w w' ∧ ((er = .nilIface ∧ Lib.parseIntB 64 s.data.toList = .ok v) ∨ ((∃ t p, er = .iface t p) ∧ ∀ v, Lib.parseIntB 64 s.data.toList ≠ .ok v))
theorem parseInt_any (s : ByteArray) (w : World) (hs : s.size ≤ 1048576) (hg : GlobE w) : Calls Tryd.prog 56 #[.string s, .int .i64 10, .int .i64 64] w (PiR w s) := by
  cases hp : Lib.parseIntB 64 s.data.toList with
  | ok v =>
    refine (Tryd.strconv_ParseInt_10_at64_ok s (by omega) v hp w).mono ?_
    rintro e w' ⟨rfl, hw⟩
    refine ⟨v, .nilIface, rfl, ?_, Or.inl ⟨rfl, hp⟩⟩
    rcases hw with rfl | ⟨t, rfl⟩
    · exact Below.refl _ _
    · exact Lib.bytesWorld_below _ _ _
  | «syntax» =>
    obtain ⟨te, pe, h⟩ := hg.es
    refine (Tryd.strconv_ParseInt_10_at64_syntax s (by omega) hp _ w h (Or.inr ⟨te, pe, rfl⟩)).mono ?_
    rintro e w' ⟨N, rfl, _, _, hb⟩
    exact ⟨_, _, rfl, hb, Or.inr ⟨⟨_, _, rfl⟩, fun v h => by rw [hp] at h; cases h⟩⟩
  | range =>
    obtain ⟨te, pe, h⟩ := hg.er
    refine (Tryd.strconv_ParseInt_10_at64_range s (by omega) hp _ w h (Or.inr ⟨te, pe, rfl⟩)).mono ?_
    rintro e w' ⟨N, rfl, _, _, hb⟩
    exact ⟨_, _, rfl, hb, Or.inr ⟨⟨_, _, rfl⟩, fun v h => by rw [hp] at h; cases h⟩⟩
theorem itB_iff {n : Int} {s : ByteArray} : itB n = s ↔ Lib.itoa n = s.data.toList := by
  constructor
  · intro h; rw [← h]; rfl
  · intro h; unfold itB; rw [h]
theorem iface75 : Tryd.prog.isIface 75 = true := by kernel_rfl
set_option maxRecDepth 20000 in
set_option maxHeartbeats 800000 in
theorem readDecimal_any (s : ByteArray) (w : World) (hs : s.size ≤ 1048576) (hg : GlobE w) : Calls Tryd.prog 44 #[.string s] w fun e w' => e = .returned (optV (rdL s.data.toList)) ∧ Below w.heap.size w w' := by
  have HG := Lib.hid hg
  have HP := Lib.hid (parseInt_any s w hs hg)
  have hif := iface75
  go_enter Tryd.func44, Tryd.ntmps44
  go_wp2_with fail
  refine HP.out.mono ?_
  rintro e w1 ⟨v, er, rfl, hb, h⟩
  have HB := Lib.hid hb
  have HG1 := Lib.hid (HG.out.below hb)
  clear hb
  rcases h with ⟨rfl, hp⟩ | ⟨⟨t, p, rfl⟩, hp⟩
  · have hbd := Lib.parseIntB_bounds hp
    have hbd2 : -9223372036854775808 ≤ v ∧ v ≤ 9223372036854775807 := by
      have h1 := hbd.1
      have h2 := hbd.2
      simp at h1 h2
      omega
    have HPV := Lib.hid hp
    clear hp hbd
    go_wp2_with fail
    refine (inRangeV _ _ _ _).mono ?_
    rintro e w' ⟨rfl, rfl⟩
    cases hr : inR v (-1000000000000000) 1000000000000000 with
    | false =>
      have HF := Lib.hid (show rdL s.data.toList = none by
        unfold rdL
        rw [HPV.out]
        simp only [inR, Bool.and_eq_false_iff, decide_eq_false_iff_not] at hr
        show (if v.natAbs ≤ 10 ^ 15 ∧ _ then _ else _) = _
        rw [if_neg (by omega)])
      clear hr
      go_wp2_with fail
      go_ret2
      exact ⟨by rw [HF.out]; rfl, HB.out⟩
    | true =>
      have hv : -1000000000000000 ≤ v ∧ v ≤ 1000000000000000 := by
        simp only [inR, Bool.and_eq_true, decide_eq_true_eq] at hr
        exact hr
      clear hr
      go_wp2_with fail
      refine (decimal_any v w' (by omega) (by omega) HG1.out.tab).mono ?_
      rintro e w2 ⟨rfl, hb2⟩
      have HB2 := Lib.hid (bthen HB.out hb2)
      clear hb2
      by_cases he : itB v = s
      · have hne : ((itB v).toList == s.toList) = true := by rw [beq_iff_eq, Lib.toList_data, Lib.toList_data, ← he]
        have HF := Lib.hid (show rdL s.data.toList = some v by
          unfold rdL
          rw [HPV.out]
          show (if v.natAbs ≤ 10 ^ 15 ∧ _ then _ else _) = _
          rw [if_pos ⟨by omega, itB_iff.1 he⟩])
        clear he
        go_wp2_with fail
        go_ret2
        exact ⟨by rw [HF.out]; rfl, HB2.out⟩
      · have hne : ((itB v).toList == s.toList) = false := by
          rw [beq_eq_false_iff_ne, Lib.toList_data, Lib.toList_data]
          exact fun h => he (itB_iff.2 h)
        have HF := Lib.hid (show rdL s.data.toList = none by
          unfold rdL
          rw [HPV.out]
          show (if v.natAbs ≤ 10 ^ 15 ∧ _ then _ else _) = _
          rw [if_neg (fun h => he (itB_iff.2 h.2))])
        clear he
        go_wp2_with fail
        go_ret2
        exact ⟨by rw [HF.out]; rfl, HB2.out⟩
  · have HF := Lib.hid (show rdL s.data.toList = none by
      unfold rdL
      cases hq : Lib.parseIntB 64 s.data.toList with
      | ok v => exact absurd hq (hp v)
      | «syntax» => rfl
      | range => rfl)
    clear hp
    go_wp2_with fail
    go_ret2
    exact ⟨by rw [HF.out]; rfl, HB.out⟩
end Go.Proofs.YthjndfbjalkckaaDoor

/- The statement 'FnExactVarianceOf' is proved: for every input the law returns true, and what was there reads as before. No condition. -/
import Derived.Test.YtklnfhjgbmfilaaRows
import Derived.WalkKit
import Derived.Deep.DeepHandedRow
import Derived.Below
import Derived.ChangeOld
import Derived.Test.YtklnfhjgbmfilaaVarX
import Derived.Test.YtklnfhjgbmfilaaLawR
import Derived.ProofKit
import Derived.OpenShut
import Derived.ShutString
import Derived.Lib.SmallJoins
import Derived.RowKit3
namespace Go.Proofs.Ytklnfhjgbmfilaa.fnExactVarianceOf
open Go.ChangeShapes Go.WideShapes Go.ChangeAt Go.RowKit
open Go.ChangeMaps (open_string shut_string)
set_option linter.unusedVariables false

theorem own : ownKnob Try.prog.godebug = none := by kernel_rfl
theorem laidOut : laidOutB Try.prog = true := by kernel_rfl
theorem Try.cells148 : Try.prog.cellsOf 148 = 2 := by kernel_rfl
theorem Try.cells2 : Try.prog.cellsOf 2 = 1 := by kernel_rfl
theorem Try.cells52 : Try.prog.cellsOf 52 = 2 := by kernel_rfl

/- The walk. -/
theorem walk (w : World) (a0 b0 : Option Addr) (n0 m0 c0 d0 : Nat) (vs0 fs0 : List Int) (hn0 : n0 ≤ maxLen) (hm0 : m0 ≤ maxLen) (h0 : IsInts w a0 n0 vs0) (g0 : IsInts w b0 (m0 * 2) fs0) :
    Calls Try.prog 7 #[.agg #[.slice a0 n0 c0, .slice b0 m0 d0]] w fun e w' => e = .returned (.bool true) ∧ Below w.heap.size w w' := by
  exact fnExactVarianceOf_walk a0 b0 n0 m0 c0 d0 vs0 fs0 w hn0 hm0 h0 g0

/- The row's step. -/
set_option maxRecDepth 100000 in
theorem lifted (os : Os) (started : os.Started) (H : Type) (enc : TypeId × Value → H) :
    ReturnsInHanded {} Try.checked os 7 .any (Rows.fnExactVarianceOfSpec.pre6 enc Try.prog Try.f7 Rows.fnExactVarianceOfRow.domain false) (Rows.fnExactVarianceOfSpec.post enc Try.prog Try.f7 false true false false) := by
  refine returnsInHanded_of_change (C := Try.checked) own started (by kernel_rfl) Try.func7
    (ChangeSpec.witness6 (enc := enc) (C := Try.checked) false ⟨#[], #[.agg #[.slice none 0 0, .slice none 0 0]], []⟩ 8 (by kernel_rfl) (by kernel_rfl) (by kernel_rfl) (by kernel_rfl)) ?_
  intro W base args ds gs before hval0 hW hcnd _
  have hval : ∀ (j : Nat) t v, Try.f7.params[j]? = some t → args[j]? = some v → Value.okWide Try.prog W .any base t v := hval0
  have hW' := hW
  obtain ⟨p, q, hA0, hV, rfl, hfz, hnd⟩ := hW
  have hA : DataW.TrodAll enc Try.prog W 0 (fun _ => true) true Try.f7.params.toList args.toList ds p := hA0
  rw [Try.params7] at hA hval
  obtain ⟨v0, vs0, d0, ds0, p0, q0, hargs, rfl, rfl, h0, r0⟩ := trodAll_cons hA
  obtain ⟨rfl, rfl, rfl⟩ := trodAll_nil r0
  obtain rfl : args = #[v0] := by cases args; simp_all
  obtain ⟨rfl, rfl⟩ := trodVars_none hV
  have k0 := h0
  have lt0 : ∀ x ∈ p0, x.block < W.heap.size := by obtain ⟨m, hm⟩ := k0; exact DataW.trod_lt m _ _ _ hm
  obtain ⟨u0, e0, y0, z0, r0, rfl, -, -, hy0, hz0⟩ := Joins.open_agg2 Try.underlying52 (by kernel_rfl) Try.cells52 (hval 0 52 v0 rfl rfl) h0
  obtain ⟨a0, n0, c0, vs0, rfl, hn0, hx0⟩ := read_ints Try.underlying24 Try.underlying2 Try.cells2 hy0
  obtain ⟨b0, m0, d0, fs0, rfl, hm0, hw0⟩ := read_pairs Try.underlying50 Try.underlying148 Try.cells148 rfl rfl rfl rfl Try.underlying2 Try.cells2 hz0
  clear hA0 hval0
  refine (walk W a0 b0 n0 m0 c0 d0 vs0 fs0 hn0 hm0 hx0 hw0).mono fun e W' ⟨he, bel⟩ => ?_
  subst he
  exact ⟨_, rfl, _, _, _, [], _, [], hW', trodAll_mk1 (shut_bool Try.underlying4 _), (trodAll_cons_mk (Below.trod laidOut (by kernel_rfl) (of_decide_eq_true (by kernel_rfl)) k0 bel lt0) trodAll_mk0), rfl, bel.frame _, fun h => by cases h⟩

theorem over : Rows.fnExactVarianceOfRow.holds Try.pinned (OpenSpec.ofChange Rows.fnExactVarianceOfSpec) :=
  OpenClaim.holds_of_wide 7 Try.f7 rfl rfl rfl rfl rfl rfl rfl ⟨rfl, rfl, rfl, rfl, rfl⟩ rfl rfl rfl rfl rfl (by kernel_rfl) Try.func7 (by kernel_rfl)
    (of_decide_eq_true (by kernel_rfl)) (by unfold Func.isWrapper; first | (rw [if_pos (by decide +kernel)]; kernel_rfl) | (rw [if_neg (by decide +kernel)]; exact ⟨rfl, rfl⟩))
    (fun os started H enc _ => lifted os started H enc)

/-- The statement. -/
theorem proved : Rows.FnExactVarianceOfSaid :=
  over
#print axioms proved
end Go.Proofs.Ytklnfhjgbmfilaa.fnExactVarianceOf

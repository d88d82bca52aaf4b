/- The statement 'FnExactJoinLaws' is proved: for every input the law returns true, and what was there reads as before. No condition. -/
import Derived.Test.YtlckamnadddlmaaGreatRows
import Derived.WalkKit
import Derived.Deep.DeepHandedRow
import Derived.Below
import Derived.ChangeOld
import Derived.Test.YtlckamnadddlmaaGreatJlM
import Derived.Test.YtlckamnadddlmaaGreatLawR
import Derived.ProofKit
import Derived.OpenShut
import Derived.ShutString
import Derived.Lib.SmallJoins
import Derived.RowKit3
namespace Go.Proofs.YtlckamnadddlmaaGreat.fnExactJoinLaws
open Go.ChangeShapes Go.WideShapes Go.ChangeAt Go.RowKit
open Go.ChangeMaps (open_string shut_string)
set_option linter.unusedVariables false

theorem own : ownKnob Tryz.prog.godebug = none := by kernel_rfl
theorem laidOut : laidOutB Tryz.prog = true := by kernel_rfl
theorem Tryz.cells102 : Tryz.prog.cellsOf 102 = 2 := by kernel_rfl
theorem Tryz.cells2 : Tryz.prog.cellsOf 2 = 1 := by kernel_rfl
theorem Tryz.cells25 : Tryz.prog.cellsOf 25 = 2 := by kernel_rfl

/- The walk. -/
theorem walk (w : World) (a0 b0 : Option Addr) (n0 m0 c0 d0 : Nat) (vs0 fs0 : List Int) (hn0 : n0 ≤ maxLen) (hm0 : m0 ≤ maxLen) (h0 : IsInts w a0 n0 vs0) (g0 : IsInts w b0 (m0 * 2) fs0) (a1 b1 : Option Addr) (n1 m1 c1 d1 : Nat) (vs1 fs1 : List Int) (hn1 : n1 ≤ maxLen) (hm1 : m1 ≤ maxLen) (h1 : IsInts w a1 n1 vs1) (g1 : IsInts w b1 (m1 * 2) fs1) :
    Calls Tryz.prog 3 #[.agg #[.slice a0 n0 c0, .slice b0 m0 d0], .agg #[.slice a1 n1 c1, .slice b1 m1 d1]] w fun e w' => e = .returned (.bool true) ∧ Below w.heap.size w w' := by
  exact fnExactJoinLaws_walk a0 b0 n0 m0 c0 d0 vs0 fs0 a1 b1 n1 m1 c1 d1 vs1 fs1 w hn0 hm0 h0 g0 hn1 hm1 h1 g1

/- The row's step. -/
set_option maxRecDepth 100000 in
theorem lifted (os : Os) (started : os.Started) (H : Type) (enc : TypeId × Value → H) :
    ReturnsInHanded {} Tryz.checked os 3 .any (Rows.fnExactJoinLawsSpec.pre6 enc Tryz.prog Tryz.f3 Rows.fnExactJoinLawsRow.domain false) (Rows.fnExactJoinLawsSpec.post enc Tryz.prog Tryz.f3 false true false false) := by
  refine returnsInHanded_of_change (C := Tryz.checked) own started (by kernel_rfl) Tryz.func3
    (ChangeSpec.witness6 (enc := enc) (C := Tryz.checked) false ⟨#[], #[.agg #[.slice none 0 0, .slice none 0 0], .agg #[.slice none 0 0, .slice none 0 0]], []⟩ 8 (by kernel_rfl) (by kernel_rfl) (by kernel_rfl) (by kernel_rfl)) ?_
  intro W base args ds gs before hval0 hW hcnd _
  have hval : ∀ (j : Nat) t v, Tryz.f3.params[j]? = some t → args[j]? = some v → Value.okWide Tryz.prog W .any base t v := hval0
  have hW' := hW
  obtain ⟨p, q, hA0, hV, rfl, hfz, hnd⟩ := hW
  have hA : DataW.TrodAll enc Tryz.prog W 0 (fun _ => true) true Tryz.f3.params.toList args.toList ds p := hA0
  rw [Tryz.params3] at hA hval
  obtain ⟨v0, vs0, d0, ds0, p0, q0, hargs, rfl, rfl, h0, r0⟩ := trodAll_cons hA
  obtain ⟨v1, vs1, d1, ds1, p1, q1, rfl, rfl, rfl, h1, r1⟩ := trodAll_cons r0
  obtain ⟨rfl, rfl, rfl⟩ := trodAll_nil r1
  obtain rfl : args = #[v0, v1] := by cases args; simp_all
  obtain ⟨rfl, rfl⟩ := trodVars_none hV
  have k0 := h0
  have lt0 : ∀ x ∈ p0, x.block < W.heap.size := by obtain ⟨m, hm⟩ := k0; exact DataW.trod_lt m _ _ _ hm
  obtain ⟨u0, e0, y0, z0, r0, rfl, -, -, hy0, hz0⟩ := Joins.open_agg2 Tryz.underlying25 (by kernel_rfl) Tryz.cells25 (hval 0 25 v0 rfl rfl) h0
  obtain ⟨a0, n0, c0, vs0, rfl, hn0, hx0⟩ := read_ints Tryz.underlying22 Tryz.underlying2 Tryz.cells2 hy0
  obtain ⟨b0, m0, d0, fs0, rfl, hm0, hw0⟩ := read_pairs Tryz.underlying23 Tryz.underlying102 Tryz.cells102 rfl rfl rfl rfl Tryz.underlying2 Tryz.cells2 hz0
  have k1 := h1
  have lt1 : ∀ x ∈ p1, x.block < W.heap.size := by obtain ⟨m, hm⟩ := k1; exact DataW.trod_lt m _ _ _ hm
  obtain ⟨u1, e1, y1, z1, r1, rfl, -, -, hy1, hz1⟩ := Joins.open_agg2 Tryz.underlying25 (by kernel_rfl) Tryz.cells25 (hval 1 25 v1 rfl rfl) h1
  obtain ⟨a1, n1, c1, vs1, rfl, hn1, hx1⟩ := read_ints Tryz.underlying22 Tryz.underlying2 Tryz.cells2 hy1
  obtain ⟨b1, m1, d1, fs1, rfl, hm1, hw1⟩ := read_pairs Tryz.underlying23 Tryz.underlying102 Tryz.cells102 rfl rfl rfl rfl Tryz.underlying2 Tryz.cells2 hz1
  clear hA0 hval0
  refine (walk W a0 b0 n0 m0 c0 d0 vs0 fs0 hn0 hm0 hx0 hw0 a1 b1 n1 m1 c1 d1 vs1 fs1 hn1 hm1 hx1 hw1).mono fun e W' ⟨he, bel⟩ => ?_
  subst he
  exact ⟨_, rfl, _, _, _, [], _, [], hW', trodAll_mk1 (shut_bool Tryz.underlying4 _), (trodAll_cons_mk (Below.trod laidOut (by kernel_rfl) (of_decide_eq_true (by kernel_rfl)) k0 bel lt0) (trodAll_cons_mk (Below.trod laidOut (by kernel_rfl) (of_decide_eq_true (by kernel_rfl)) k1 bel lt1) trodAll_mk0)), rfl, bel.frame _, fun h => by cases h⟩

theorem over : Rows.fnExactJoinLawsRow.holds Tryz.pinned (OpenSpec.ofChange Rows.fnExactJoinLawsSpec) :=
  OpenClaim.holds_of_wide 3 Tryz.f3 rfl rfl rfl rfl rfl rfl rfl ⟨rfl, rfl, rfl, rfl, rfl⟩ rfl rfl rfl rfl rfl (by kernel_rfl) Tryz.func3 (by kernel_rfl)
    (of_decide_eq_true (by kernel_rfl)) (by unfold Func.isWrapper; first | (rw [if_pos (by decide +kernel)]; kernel_rfl) | (rw [if_neg (by decide +kernel)]; exact ⟨rfl, rfl⟩))
    (fun os started H enc _ => lifted os started H enc)

/-- The statement. -/
theorem proved : Rows.FnExactJoinLawsSaid :=
  over
#print axioms proved
end Go.Proofs.YtlckamnadddlmaaGreat.fnExactJoinLaws

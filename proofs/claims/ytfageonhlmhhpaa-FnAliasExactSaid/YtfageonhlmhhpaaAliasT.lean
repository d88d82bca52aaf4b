import Derived.Test.YtfageonhlmhhpaaAliasS
import Derived.Test.YtfageonhlmhhpaaAliasQ
import Derived.Test.YtfageonhlmhhpaaDyadLaw
import Derived.Test.YtfageonhlmhhpaaLists
/- The table and the face of the columns: the program's functions and the reference's return the same. -/
namespace Go.Proofs.Ytfageonhlmhhpaa
open Go.RowKit
set_option linter.unusedVariables false

def alT (ws : List Int) : Al.St := Al.run ws.sum ws.length (Al.start ws ws.sum)

theorem areW_iff (ws : List Int) (hl : ws.length ≤ 1048576) (h : areW ws = true) : ws.length ≤ 16 ∧ 1 ≤ ws.length ∧ (∀ x ∈ ws, 0 ≤ x ∧ x ≤ 1000000) ∧ sumL ws = ws.sum ∧ totalR ws = ws.sum ∧ 1 ≤ ws.sum ∧ ws.sum ≤ 1000000 := by
  simp only [areW, Bool.and_eq_true] at h
  obtain ⟨h1, h2, h3⟩ := h
  have hs := sumL_eq ws h2 hl
  rw [hs] at h3
  have h1' := h1
  simp only [inR, Bool.and_eq_true, decide_eq_true_eq] at h1 h3
  refine ⟨by omega, by omega, fun x hx => ?_, hs, ?_, h3.1, h3.2⟩
  · have := List.all_eq_true.1 h2 x hx
    simpa [inR] using this
  · simp only [totalR, h1', h2, Bool.and_self, if_true]
    rw [if_neg (by omega)]
theorem totalR_iff (ws : List Int) (hl : ws.length ≤ 1048576) : (totalR ws == 0) = !areW ws := by
  cases h1 : inR ws.length 1 16 with
  | false => simp [areW, totalR, h1]
  | true =>
    cases h2 : allR ws 0 1000000 with
    | false => simp [areW, totalR, h1, h2]
    | true =>
      have hs := sumL_eq ws h2 hl
      have hb := sum_bd ws h2
      simp only [areW, totalR, h1, h2, hs, Bool.true_and, Bool.and_self, if_true]
      generalize ws.sum = t at *
      by_cases hbig : 1000000 < t
      · simp [inR, hbig]
      · rw [if_neg hbig]
        by_cases ht : t = 0
        · subst ht; rfl
        · have e1 : (t == 0) = false := by simpa using ht
          have e2 : inR t 1 1000000 = true := by simp [inR]; omega
          rw [e1, e2]
          rfl

def tabC (ws : List Int) : List Int := if areW ws then (alT ws).ct else []
def tabO (ws : List Int) : List Int := if areW ws then (alT ws).ot else []

theorem alT_inv (ws : List Int) (h : ws.length ≤ 16 ∧ 1 ≤ ws.length ∧ (∀ x ∈ ws, 0 ≤ x ∧ x ≤ 1000000) ∧ sumL ws = ws.sum ∧ totalR ws = ws.sum ∧ 1 ≤ ws.sum ∧ ws.sum ≤ 1000000) : Al.Inv ws.length ws.sum (alT ws) :=
  (Al.run_done ws.length (Al.inv_start ws ws.sum h.1 h.2.2.1 rfl h.2.2.2.2.2.1 h.2.2.2.2.2.2) (by rw [Al.left_start]; omega)).2

theorem tabC_len (ws : List Int) (hl : ws.length ≤ 1048576) : (tabC ws).length ≤ 16 := by
  unfold tabC
  cases h : areW ws with
  | false => simp
  | true =>
    have h1 := areW_iff ws hl h
    have := (alT_inv ws h1).ctl
    simp; omega
theorem tabO_len (ws : List Int) (hl : ws.length ≤ 1048576) : (tabO ws).length ≤ 16 := by
  unfold tabO
  cases h : areW ws with
  | false => simp
  | true =>
    have h1 := areW_iff ws hl h
    have := (alT_inv ws h1).otl
    simp; omega

/-- The two lists that come back, as slices of their own. -/
def RetLL (w : World) (ws : List Int) (e : Ending) (w' : World) : Prop :=
  ∃ a1 c1 a2 c2, e = .returned (.tuple #[.slice a1 (tabC ws).length c1, .slice a2 (tabO ws).length c2, .bool (areW ws)]) ∧
    Lists w' w.heap.size [⟨a1, (tabC ws).length, c1, tabC ws⟩, ⟨a2, (tabO ws).length, c2, tabO ws⟩] ∧ Below w.heap.size w w'

theorem retLL_of {w w' : World} {ws : List Int} {T : Int} (hT : T = ws.sum) (hI : Al.Inv ws.length ws.sum (alT ws)) (h : areW ws = true) {gc go cc co : Nat}
    (hO : Owns w' w.heap.size [(gc, rowO 2 cc ((Al.run T ws.length (Al.start ws T)).ct.map (Value.int .i64))), (go, rowO 2 co ((Al.run T ws.length (Al.start ws T)).ot.map (Value.int .i64)))]) (hb : Below w.heap.size w w') :
    RetLL w ws (.returned (.tuple #[.slice (some ⟨gc, 0, none⟩) ws.length cc, .slice (some ⟨go, 0, none⟩) ws.length co, .bool true])) w' := by
  subst hT
  have e1 : tabC ws = (alT ws).ct := if_pos h
  have e2 : tabO ws = (alT ws).ot := if_pos h
  refine ⟨some ⟨gc, 0, none⟩, cc, some ⟨go, 0, none⟩, co, ?_, ?_, hb⟩
  · rw [e1, e2, hI.ctl, hI.otl, h]
  · rw [e1, e2]
    have o1 := (hO.rowAt 0 rfl).1
    have o2 := (hO.rowAt 1 rfl).1
    have hnd := hO.nd
    simp only [List.map_cons, List.map_nil, List.nodup_cons, List.mem_cons, List.not_mem_nil, or_false] at hnd
    refine ⟨fun p hp => ?_, ?_⟩
    · simp only [List.mem_cons, List.not_mem_nil, or_false] at hp
      rcases hp with rfl | rfl
      · rw [List.length_map] at o1; exact o1
      · rw [List.length_map] at o2; exact o2
    · refine .cons (fun p hp => ?_) (List.pairwise_singleton _ _)
      rw [List.mem_singleton] at hp
      subst hp
      right
      simp only [Sl.v, Value.ownBlock, ne_eq, Option.some.injEq]
      exact hnd.1

theorem retLL_no {w w' : World} {ws : List Int} (h : areW ws = false) (hb : Below w.heap.size w w') :
    RetLL w ws (.returned (.tuple #[.slice none 0 0, .slice none 0 0, .bool false])) w' := by
  have e1 : tabC ws = [] := by simp [tabC, h]
  have e2 : tabO ws = [] := by simp [tabO, h]
  refine ⟨none, 0, none, 0, ?_, ?_, hb⟩
  · rw [e1, e2, h]; rfl
  · rw [e1, e2]
    refine ⟨fun p hp => ?_, ?_⟩
    · simp only [List.mem_cons, List.not_mem_nil, or_false] at hp
      rcases hp with rfl | rfl <;> exact ⟨by simp, Or.inl ⟨rfl, rfl⟩⟩
    · refine .cons (fun p hp => Or.inl rfl) (List.pairwise_singleton _ _)

set_option maxHeartbeats 400000 in
theorem aliasTable_any (a : Option Addr) (len cap : Nat) (ws : List Int) (w : World) (hb : len ≤ 1048576) (hx : IsInts w a len ws) :
    Calls Try.prog 14 #[.slice a len cap] w (RetLL w ws) := by
  obtain rfl := hx.1
  cases h : areW ws with
  | false =>
    have H := Lib.hid h
    clear h
    go_enter Try.func14, Try.ntmps14
    go_wp2_with fail
    refine (areWeights_any _ _ _ ws _ (by omega) hx).mono ?_
    rintro e w' ⟨rfl, hb1⟩
    rw [H.out]
    go_wp2
    go_ret3
    exact retLL_no H.out hb1
  | true =>
    have h1 := areW_iff ws hb h
    have H := Lib.hid h
    have H1 := Lib.hid h1
    clear h h1
    go_enter Try.func14, Try.ntmps14
    go_wp2_with fail
    refine (areWeights_any _ _ _ ws _ (by omega) hx).mono ?_
    rintro e w1 ⟨rfl, hb1⟩
    rw [H.out]
    have hx1 := hx.below hb1
    go_wp2_with fail
    refine (alias_any _ _ ws _ hx1 H1.out.1 H1.out.2.1 H1.out.2.2.1 H1.out.2.2.2.1 H1.out.2.2.2.2.2.1 H1.out.2.2.2.2.2.2).mono ?_
    rintro e w2 ⟨gc, go, cc, co, rfl, hO, hb2⟩
    have HO := Lib.hid hO
    clear hO
    go_wp2
    go_ret3
    exact retLL_of H1.out.2.2.2.1 (alT_inv ws H1.out) H.out (HO.out.mono hb1.size) (bthen hb1 hb2)

set_option maxHeartbeats 400000 in
theorem specAliasTable_any (a : Option Addr) (len cap : Nat) (ws : List Int) (w : World) (hb : len ≤ 1048576) (hx : IsInts w a len ws) :
    Calls Try.prog 19 #[.slice a len cap] w (RetLL w ws) := by
  obtain rfl := hx.1
  have hz := totalR_iff ws hb
  cases h : areW ws with
  | false =>
    rw [h] at hz
    have ht : totalR ws = 0 := by simpa using hz
    have H := Lib.hid (And.intro h ht)
    clear h ht hz
    go_enter Try.func19, Try.ntmps19
    go_wp2_with fail
    refine (l06Total_any _ _ _ ws _ (by omega) hx).mono ?_
    rintro e w' ⟨rfl, rfl⟩
    rw [H.out.2]
    go_wp2
    go_ret3
    exact retLL_no H.out.1 (Below.refl _ _)
  | true =>
    rw [h] at hz
    have ht : ¬ totalR ws = 0 := by simpa using hz
    have h1 := areW_iff ws hb h
    obtain ⟨t, hte⟩ : ∃ t, totalR ws = t := ⟨_, rfl⟩
    rw [hte] at ht
    have H := Lib.hid (And.intro h hte)
    have H1 := Lib.hid h1
    clear h h1 hz hte
    go_enter Try.func19, Try.ntmps19
    go_wp2_with fail
    refine (l06Total_any _ _ _ ws _ (by omega) hx).mono ?_
    rintro e w1 ⟨rfl, rfl⟩
    rw [H.out.2]
    go_wp2_with fail
    refine (l06Alias_any _ _ ws _ hx H1.out.1 H1.out.2.1 H1.out.2.2.1 H1.out.2.2.2.2.1 H1.out.2.2.2.2.2.1 H1.out.2.2.2.2.2.2).mono ?_
    rintro e w2 ⟨gc, go, cc, co, rfl, hO, hb2⟩
    have HO := Lib.hid hO
    clear hO
    go_wp2
    go_ret3
    exact retLL_of H1.out.2.2.2.2.1 (alT_inv ws H1.out) H.out.1 HO.out hb2

end Go.Proofs.Ytfageonhlmhhpaa

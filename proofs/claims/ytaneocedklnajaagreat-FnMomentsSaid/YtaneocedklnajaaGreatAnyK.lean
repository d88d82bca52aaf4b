import Derived.Test.YtaneocedklnajaaGreatOwnX
import Derived.Deep.RegionHeld3
import Derived.Deep.LoopGhost
import Derived.Deep.DeepCutAuto
import Derived.OrdersHeld
import Derived.RegionTactic
/- Regions that draw their order and end with stores: a condition S on the world is kept till number k comes up; a load that S tells and that k waits for may be taken first. No condition. -/
namespace Go.Proofs.YtaneocedklnajaaGreat
open Go.RowKit
set_option linter.unusedVariables false

section
variable {P : Program} {ops : Array Oper} {Q : Exit → Act → World → Prop} {md : Region.Mode} {S T : World → Prop} {k : Nat}
/-- Whatever order is picked from here on; S is shown behind each operation that comes up ahead of number k. -/
def anyK (P : Program) (md : Region.Mode) (ops : Array Oper) (Q : Exit → Act → World → Prop) (S T : World → Prop) (k : Nat) : Nat → Array Bool → Act → World → Prop
  | 0, l, a, w => Region.ready md ops l = [] ∧ Q .normal a w
  | n + 1, l, a, w => (Region.ready md ops l = [] → Q .normal a w) ∧ ∀ i ∈ Region.ready md ops l, wpOp P ops Q i (fun a' w' => (i ≠ k → l.getD k true = false → S w') ∧ T w' ∧ anyK P md ops Q S T k n (l.setIfInBounds i true) a' w') a w
theorem any_of_K : ∀ (n : Nat) (l : Array Bool) (a : Act) (w : World), anyK P md ops Q S T k n l a w → wpAny P md ops Q n l a w
  | 0, _, _, _, h => h
  | n + 1, _, _, _, h => ⟨h.1, fun i hi => wpOp_mono (fun a' w' h' => any_of_K n _ a' w' h'.2.2) (h.2 i hi)⟩
theorem anyK_first {i : Nat} {oi ok : Oper} {v : Value} (hi : ops[i]? = some oi) (hk : ops[k]? = some ok) (hki : ∃ e ∈ ok.after, Region.binds md e = true ∧ e.on = i) (hsel : ∀ (j : Nat) (o : Oper) cs b, ops[j]? = some o → o.op ≠ .select cs b)
    (hQ : ∀ c a w, Q (.panic c) (a.put oi.dst v) w → Q (.panic c) a w) (n : Nat) : ∀ (l : Array Bool) (a : Act) (w : World),
      (∀ j oj, ops[j]? = some oj → j ≠ i → l.getD j true = false → (∀ e ∈ oj.after, Region.binds md e = true → e.on ≠ i) → oi.apart ops oj = true) →
      i ∈ Region.ready md ops l → l.getD k true = false → YieldsIf P ops S oi v a → S w → T w →
      anyK P md ops Q S T k n (l.setIfInBounds i true) (a.put oi.dst v) w → anyK P md ops Q S T k (n + 1) l a w := by
  have hnotk : ∀ (l : Array Bool) (j : Nat), i ∈ Region.ready md ops l → j ∈ Region.ready md ops l → ∀ oj, ops[j]? = some oj → ∀ e ∈ oj.after, Region.binds md e = true → e.on ≠ i := fun l j hri hrj oj hoj e he hb heq => by
    obtain ⟨_, oj', hoj', hall⟩ := mem_ready.1 hrj
    rw [hoj] at hoj'
    cases hoj'
    have h1 := hall e he hb
    have h0 := (mem_ready.1 hri).1
    rw [heq] at h1
    rcases Nat.lt_or_ge i l.size with h' | h'
    · simp [h'] at h0 h1; rw [h0] at h1; cases h1
    · simp [Array.getElem?_eq_none h'] at h1
  induction n with
  | zero =>
    intro l a w _ hr hlk hy hS hT H
    refine ⟨fun h => (by rw [h] at hr; cases hr), fun j hj => ?_⟩
    by_cases hji : j = i
    · subst hji; exact hy.wpOp hi hS ⟨fun _ _ => hS, hT, H⟩
    · have := ready_mono hj hji
      rw [H.1] at this
      cases this
  | succ n ih =>
    intro l a w hfree hr hlk hy hS hT H
    refine ⟨fun h => (by rw [h] at hr; cases hr), fun j hj => ?_⟩
    by_cases hji : j = i
    · subst hji; exact hy.wpOp hi hS ⟨fun _ _ => hS, hT, H⟩
    · have h1 := H.2 j (ready_mono hj hji)
      obtain ⟨hjun, oj, hoj, hall⟩ := mem_ready.1 hj
      have hnot := hnotk l j hr hj oj hoj
      have hjk : j ≠ k := fun e => by
        subst e
        obtain ⟨x, hx, hxb, hxi⟩ := hki
        rw [hoj] at hk
        cases hk
        exact hnot x hx hxb hxi
      have hik : i ≠ k := fun e => by
        obtain ⟨x, hx, hxb, hxi⟩ := hki
        subst e
        have := hnotk l i hr hr ok hk x hx hxb
        exact this hxi
      have h2 := wpOp_putIf hoj (hfree j oj hoj hji hjun hnot) (fun cs b => hsel i oi cs b hi) (fun cs b => hsel j oj cs b hoj) hQ hy h1
      have hfree' : ∀ q oq, ops[q]? = some oq → q ≠ i → (l.setIfInBounds j true).getD q true = false → (∀ e ∈ oq.after, Region.binds md e = true → e.on ≠ i) → oi.apart ops oq = true := fun q oq hq hqi hun hno => by
        refine hfree q oq hq hqi ?_ hno
        by_cases hjq : j = q
        · subst hjq; exact hjun
        · rw [getD_set_ne true hjq] at hun; exact hun
      have hlk2 : (l.setIfInBounds i true).getD k true = false := by rw [getD_set_ne true hik]; exact hlk
      have hlk3 : (l.setIfInBounds j true).getD k true = false := by rw [getD_set_ne true hjk]; exact hlk
      refine wpOp_mono (fun a' w' h3 => ?_) h2
      have hS' : S w' := h3.2.1 hjk hlk2
      refine ⟨fun _ _ => hS', h3.2.2.1, ih (l.setIfInBounds j true) a' w' hfree' (ready_mono hr (Ne.symm hji)) hlk3 h3.1 hS' h3.2.2.1 ?_⟩
      rw [Array.setIfInBounds_comm _ _ hji]
      exact h3.2.2.2
theorem anyK_take {i : Nat} {oi ok : Oper} {v : Value} {n : Nat} {l : Array Bool} {a : Act} {w : World} (hi : ops[i]? = some oi) (hk : ops[k]? = some ok) (hki : (ok.after.any fun e => Region.binds md e && e.on == i) = true)
    (hs : Region.noSelect ops = true) (hf : Region.free md ops l i = true) (hr : (Region.ready md ops l).contains i = true) (hlk : l.getD k true = false)
    (hQ : ∀ c a w, Q (.panic c) (a.put oi.dst v) w → Q (.panic c) a w) (hy : YieldsIf P ops S oi v a) (hS : S w) (hT : T w)
    (h : anyK P md ops Q S T k n (l.setIfInBounds i true) (a.put oi.dst v) w) : anyK P md ops Q S T k (n + 1) l a w :=
  anyK_first hi hk (by
    obtain ⟨j, hj, he⟩ := Array.any_eq_true.1 hki
    simp only [Bool.and_eq_true, beq_iff_eq] at he
    exact ⟨_, Array.getElem_mem hj, he.1, he.2⟩) (Region.noSelect_spec hs) hQ n l a w (Region.free_spec hi hf) (by simpa using hr) hlk hy hS hT h
theorem anyT_first {i : Nat} {oi : Oper} {v : Value} (hi : ops[i]? = some oi) (hik : i ≠ k) (hsel : ∀ (j : Nat) (o : Oper) cs b, ops[j]? = some o → o.op ≠ .select cs b)
    (hQ : ∀ c a w, Q (.panic c) (a.put oi.dst v) w → Q (.panic c) a w) (n : Nat) : ∀ (l : Array Bool) (a : Act) (w : World),
      (∀ j oj, ops[j]? = some oj → j ≠ i → l.getD j true = false → (∀ e ∈ oj.after, Region.binds md e = true → e.on ≠ i) → oi.apart ops oj = true) →
      i ∈ Region.ready md ops l → YieldsIf P ops T oi v a → (l.getD k true = false → S w) → T w →
      anyK P md ops Q S T k n (l.setIfInBounds i true) (a.put oi.dst v) w → anyK P md ops Q S T k (n + 1) l a w := by
  have hnotk : ∀ (l : Array Bool) (j : Nat), i ∈ Region.ready md ops l → j ∈ Region.ready md ops l → ∀ oj, ops[j]? = some oj → ∀ e ∈ oj.after, Region.binds md e = true → e.on ≠ i := fun l j hri hrj oj hoj e he hb heq => by
    obtain ⟨_, oj', hoj', hall⟩ := mem_ready.1 hrj
    rw [hoj] at hoj'
    cases hoj'
    have h1 := hall e he hb
    have h0 := (mem_ready.1 hri).1
    rw [heq] at h1
    rcases Nat.lt_or_ge i l.size with h' | h'
    · simp [h'] at h0 h1; rw [h0] at h1; cases h1
    · simp [Array.getElem?_eq_none h'] at h1
  have hset : ∀ l : Array Bool, (l.setIfInBounds i true).getD k true = l.getD k true := fun l => getD_set_ne true hik
  induction n with
  | zero =>
    intro l a w _ hr hy hS hT H
    refine ⟨fun h => (by rw [h] at hr; cases hr), fun j hj => ?_⟩
    by_cases hji : j = i
    · subst hji; exact hy.wpOp hi hT ⟨fun _ h => hS h, hT, H⟩
    · have := ready_mono hj hji
      rw [H.1] at this
      cases this
  | succ n ih =>
    intro l a w hfree hr hy hS hT H
    refine ⟨fun h => (by rw [h] at hr; cases hr), fun j hj => ?_⟩
    by_cases hji : j = i
    · subst hji; exact hy.wpOp hi hT ⟨fun _ h => hS h, hT, H⟩
    · have h1 := H.2 j (ready_mono hj hji)
      obtain ⟨hjun, oj, hoj, _⟩ := mem_ready.1 hj
      have hnot := hnotk l j hr hj oj hoj
      have h2 := wpOp_putIf hoj (hfree j oj hoj hji hjun hnot) (fun cs b => hsel i oi cs b hi) (fun cs b => hsel j oj cs b hoj) hQ hy h1
      have hfree' : ∀ q oq, ops[q]? = some oq → q ≠ i → (l.setIfInBounds j true).getD q true = false → (∀ e ∈ oq.after, Region.binds md e = true → e.on ≠ i) → oi.apart ops oq = true := fun q oq hq hqi hun hno => by
        refine hfree q oq hq hqi ?_ hno
        by_cases hjq : j = q
        · subst hjq; exact hjun
        · rw [getD_set_ne true hjq] at hun; exact hun
      refine wpOp_mono (fun a' w' h3 => ⟨fun hjk hl => h3.2.1 hjk (by rw [hset]; exact hl), h3.2.2.1, ih (l.setIfInBounds j true) a' w' hfree' (ready_mono hr (Ne.symm hji)) h3.1 (fun hl => ?_) h3.2.2.1 ?_⟩) h2
      · have hjk : j ≠ k := fun e => by
          subst e
          have hlt : j < l.size := by
            rcases Nat.lt_or_ge j l.size with h | h
            · exact h
            · simp [Array.getElem?_eq_none h] at hjun
          simp [hlt] at hl
        exact h3.2.1 hjk (by rw [hset]; rw [getD_set_ne true hjk] at hl; exact hl)
      · rw [Array.setIfInBounds_comm _ _ hji]
        exact h3.2.2.2
theorem anyT_take {i : Nat} {oi : Oper} {v : Value} {n : Nat} {l : Array Bool} {a : Act} {w : World} (hi : ops[i]? = some oi) (hik : i ≠ k)
    (hs : Region.noSelect ops = true) (hf : Region.free md ops l i = true) (hr : (Region.ready md ops l).contains i = true)
    (hQ : ∀ c a w, Q (.panic c) (a.put oi.dst v) w → Q (.panic c) a w) (hy : YieldsIf P ops T oi v a) (hS : S w) (hT : T w)
    (h : anyK P md ops Q S T k n (l.setIfInBounds i true) (a.put oi.dst v) w) : anyK P md ops Q S T k (n + 1) l a w :=
  anyT_first hi hik (Region.noSelect_spec hs) hQ n l a w (Region.free_spec hi hf) (by simpa using hr) hy (fun _ => hS) hT h
theorem anyK_all {rs : List Nat} {n : Nat} {l : Array Bool} {a : Act} {w : World} (hr : Region.ready md ops l = rs) (hne : rs ≠ [])
    (h : ∀ i ∈ rs, wpOp P ops Q i (fun a' w' => (i ≠ k → l.getD k true = false → S w') ∧ T w' ∧ anyK P md ops Q S T k n (l.setIfInBounds i true) a' w') a w) : anyK P md ops Q S T k (n + 1) l a w :=
  ⟨fun h0 => absurd (hr ▸ h0) hne, hr ▸ h⟩
theorem anyK_done {l : Array Bool} {a : Act} {w : World} (hr : Region.ready md ops l = []) (h : Q .normal a w) : ∀ n, anyK P md ops Q S T k n l a w
  | 0 => ⟨hr, h⟩
  | _ + 1 => ⟨fun _ => h, by rw [hr]; simp⟩
end
end Go.Proofs.YtaneocedklnajaaGreat

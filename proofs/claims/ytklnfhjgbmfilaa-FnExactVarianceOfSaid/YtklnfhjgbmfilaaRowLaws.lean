import Derived.Test.YtklnfhjgbmfilaaOwn
import Derived.Laws.CopyOwn
import Derived.Lib.SliceRun
/- clear and copy into a row that is owned; append of a whole slice to a fresh one: laws for the walk over lists of own blocks. -/
namespace Go.Proofs.Ytklnfhjgbmfilaa
open Go.RowKit
set_option linter.unusedVariables false

/-- Cells laid over a list. -/
def spl {α : Type} (xs : List α) (off : Nat) (cs : List α) : List α := xs.take off ++ (cs ++ xs.drop (off + cs.length))
theorem spl_len {α : Type} {xs : List α} {off : Nat} {cs : List α} (h : off + cs.length ≤ xs.length) : (spl xs off cs).length = xs.length := by simp [spl]; omega
theorem spl_map {α β : Type} (f : α → β) (xs : List α) (off : Nat) (cs : List α) : (spl xs off cs).map f = spl (xs.map f) off (cs.map f) := by simp [spl]
theorem spl_one {α : Type} {xs : List α} {off : Nat} {v : α} {cs : List α} (h : off < xs.length) : spl (xs.set off v) (off + 1) cs = spl xs off (v :: cs) := by
  unfold spl
  apply List.ext_getElem?
  intro i
  simp only [List.getElem?_append, List.length_take, List.length_set, List.getElem?_take, List.getElem?_set, List.getElem?_drop, List.length_cons]
  by_cases h1 : i < off
  · have a1 : i < min (off + 1) xs.length := by omega
    have a2 : i < min off xs.length := by omega
    have a3 : i < off + 1 := by omega
    have a4 : ¬ off = i := by omega
    simp [a1, a2, a3, a4, h1]
  · by_cases h2 : i = off
    · subst h2
      have a1 : i < min (i + 1) xs.length := by omega
      have a2 : ¬ i < min i xs.length := by omega
      have a5 : i - min i xs.length = 0 := by omega
      simp [a1, a2, a5, h]
    · have a1 : ¬ i < min (off + 1) xs.length := by omega
      have a2 : ¬ i < min off xs.length := by omega
      have a5 : i - min off xs.length = (i - min (off + 1) xs.length) + 1 := by omega
      have a6 : off + 1 ≤ xs.length := h
      simp only [a1, a2, if_false, a5, Nat.add_lt_add_iff_right, List.getElem?_cons_succ, Nat.add_sub_add_right]
      split
      · rfl
      · have a7 : ¬ off = off + 1 + cs.length + (i - min (off + 1) xs.length - cs.length) := by omega
        have a8 : off + (cs.length + 1) + (i - min (off + 1) xs.length - cs.length) = off + 1 + cs.length + (i - min (off + 1) xs.length - cs.length) := by omega
        simp [a7, a8]
theorem grownBy_setCells (g : Nat) : ∀ (vs : List Value) (o : Nat) (w : World), w.grownBy (w.setCells g o vs) (some g)
  | [], o, w => World.grownBy.refl _ _
  | v :: vs, o, w => by
    rw [World.setCells]
    exact grownBy_trans (grownBy_setCell w ⟨g, o, none⟩ v) (grownBy_setCells g vs (o + 1) _)
theorem set_same {α : Type} {l : List α} {i : Nat} {x : α} (h : l[i]? = some x) : l.set i x = l := by
  obtain ⟨hl, rfl⟩ := List.getElem?_eq_some_iff.1 h
  exact List.set_getElem_self hl
theorem Owns.setCells {B : Nat} {e : TypeId} {cap g i : Nat} : ∀ (vs : List Value) (o : Nat) (w : World) (l : List (Nat × (Obj → Prop))) (xs : List Value), Owns w B l → l[i]? = some (g, rowO e cap xs) → o + vs.length ≤ xs.length →
    Owns (w.setCells g o vs) B (l.set i (g, rowO e cap (spl xs o vs)))
  | [], o, w, l, xs, h, hi, hl => by
    have e1 : spl xs o [] = xs := by simp [spl]
    rw [World.setCells, e1, set_same hi]
    exact h
  | v :: vs, o, w, l, xs, h, hi, hl => by
    have h1 := h.setRow i hi o v
    have hil : i < l.length := (List.getElem?_eq_some_iff.1 hi).1
    have h2 := Owns.setCells (e := e) (cap := cap) (g := g) (i := i) vs (o + 1) _ _ (xs.set o v) h1 (by simp [hil]) (by simp at hl ⊢; omega)
    rw [List.set_set, spl_one (by simp at hl; omega)] at h2
    rw [World.setCells]
    exact h2

theorem take_splice {α : Type} (L : List α) (off n : Nat) (cs : List α) (h1 : off + cs.length ≤ n) (h2 : n ≤ L.length) : (L.take off ++ (cs ++ L.drop (off + cs.length))).take n = spl (L.take n) off cs := by
  unfold spl
  have hl : (L.take off).length = off := by simp; omega
  rw [List.take_append, hl, List.take_of_length_le (by omega : (L.take off).length ≤ n), List.take_append, List.take_of_length_le (by omega : cs.length ≤ n - off), List.take_take, Nat.min_eq_left (by omega : off ≤ n), show n - off - cs.length = n - (off + cs.length) from by omega, ← List.drop_take]
theorem wpList_clear_O {P : Program} {ops : Array Oper} {rest : List Oper} {o : Oper} {a : Act} {w : World} {Q : Exit → Act → World → Prop} (hgd : o.guard = none) (s : Operand) (t : TypeId)
    (ho : o.op = .call { callee := .builtin .clear, args := #[s], argTypes := #[t] }) (e : TypeId) (z : Value) (ht : P.underlying t = some (.slice e)) (hv : ∀ w, (zeroValue e).run P w = .ok z w) (hz : z.cells = #[z]) (hz1 : z.oneCell' = true)
    (g off n c : Nat) (hs : a.eval s = .slice (some ⟨g, off, none⟩) n c) (hn : 0 < n) {B : Nat} {l : List (Nat × (Obj → Prop))} {i cap : Nat} {xs : List Value} (hO : Owns w B l) (hi : l[i]? = some (g, rowO e cap xs)) (hfit : off + n ≤ xs.length)
    (h : ∀ w', Owns w' B (l.set i (g, rowO e cap (spl xs off (List.replicate n z)))) → w.grownBy w' (some g) → wpList P ops Q rest (a.put o.dst (.tuple #[])) w') : wpList P ops Q (o :: rest) a w := by
  refine wpList_plain hgd fun K hK => ?_
  have hr := fun ty => Lib.run_clear_slice (P := P) w t e ty z ht hv hz hz1 g off n c hn (fun j hj => by rw [hO.cellAt i hi (off + j) (by omega), List.getElem?_eq_getElem (by omega)]; rfl) (fun j hj => hO.frozenAt i hi (off + j))
  unfold Oper.wp execOp
  simp only [ho, resolve, invoke, builtin, Sem.run_bind, Sem.run_pure, Result.andThen_ok, List.map_toArray, List.map_cons, List.map_nil, hs, hr]
  exact hK _ _ (h _ (Owns.setCells _ _ _ _ _ hO hi (by simpa using hfit)) (grownBy_setCells _ _ _ _))

theorem wpList_copy_O {P : Program} {ops : Array Oper} {rest : List Oper} {o : Oper} {a : Act} {w : World} {Q : Exit → Act → World → Prop} (hgd : o.guard = none) (d s : Operand) (dT sT : TypeId)
    (ho : o.op = .call { callee := .builtin .copy, args := #[d, s], argTypes := #[dT, sT] }) (e : TypeId) (hu : P.underlying dT = some (.slice e)) (hsz : (P.info? e).map (·.size) = some 1)
    (g off dLen dCap sLen sCap : Nat) (sp : Option Addr) (hd : a.eval d = .slice (some ⟨g, off, none⟩) dLen dCap) (hs : a.eval s = .slice sp sLen sCap) {B : Nat} {l : List (Nat × (Obj → Prop))} {i cap : Nat} {xs : List Value} (hO : Owns w B l) (hi : l[i]? = some (g, rowO e cap xs))
    (cs : List Value) (hn : cs.length = sLen) (hle : sLen ≤ dLen) (hfit : off + sLen ≤ xs.length) (hsrc : ∀ j, j < sLen → ∃ b f, sp = some ⟨b, f, none⟩ ∧ w.cell? ⟨b, f + j, none⟩ = cs[j]?) (h1 : ∀ v ∈ cs, v.oneCell' = true)
    (h : ∀ w', Owns w' B (l.set i (g, rowO e cap (spl xs off cs))) → w.grownBy w' (some g) → wpList P ops Q rest (a.put o.dst (goInt cs.length)) w') : wpList P ops Q (o :: rest) a w := by
  by_cases h0 : sLen = 0
  · obtain rfl : cs = [] := List.eq_nil_of_length_eq_zero (by omega)
    refine wpList_copy_nothing hgd d s dT sT ho e hu hsz _ sp dLen dCap sLen sCap hd hs (by rw [h0]; exact Nat.zero_min _) ?_
    refine h w ?_ (World.grownBy.refl _ _)
    have e1 : spl xs off [] = xs := by simp [spl]
    rw [e1, set_same hi]
    exact hO
  · obtain ⟨b, f, rfl, _⟩ := hsrc 0 (by omega)
    obtain ⟨hB, ob, hob, cur, rfl, hcs, hcl, hcm, hct⟩ := hO.holds _ (List.mem_of_getElem? hi)
    simp only at hob hB
    have hplain : ∀ j, (⟨b, f, none⟩ : Addr).add j = ⟨b, f + j, none⟩ := fun j => by unfold Addr.add; split <;> simp_all
    refine wpList_copy_own hgd d s dT sT ho e hu hsz g off dLen dCap ⟨b, f, none⟩ sLen sCap hd hs cur e hob cs (by rw [hn]; exact (Nat.min_eq_left hle).symm) (fun j v hj => ?_) (by omega) h1 ?_
    · have hjl : j < sLen := by rw [← hn]; exact (List.getElem?_eq_some_iff.1 hj).1
      obtain ⟨b', f', e', hc'⟩ := hsrc j hjl
      simp only [Option.some.injEq, Addr.mk.injEq] at e'
      obtain ⟨rfl, rfl, _⟩ := e'
      rw [hplain, hc', hj]
    · have hg : w.grownBy (w.setRow g (cur.toList.take off ++ (cs ++ cur.toList.drop (off + cs.length))).toArray) (some g) := ⟨rfl, rfl, rfl, by simp [World.setRow], fun k hk hne => setRow_other w g k _ (fun e => hne (by rw [e]))⟩
      refine h _ (hO.upd hi hg (Or.inl rfl) hB (setRow_heap w g _ _ e _ hob) ?_) hg
      refine ⟨_, rfl, by simp; omega, by rw [spl_len (by omega)]; exact hcl, hcm, ?_⟩
      rw [spl_len (by omega)]
      have e1 := take_splice cur.toList off xs.length cs (by omega) (by simp; omega)
      rw [hct] at e1
      rw [List.toList_toArray]
      exact e1
end Go.Proofs.Ytklnfhjgbmfilaa

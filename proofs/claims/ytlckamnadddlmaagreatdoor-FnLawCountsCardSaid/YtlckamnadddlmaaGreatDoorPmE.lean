import Derived.Test.YtlckamnadddlmaaGreatDoorPmF
import Derived.WideKeyEntry
/- An entry of a map that the call made: read and stored anew ('m[k] += x'). No condition. -/
namespace Go.Proofs.YtlckamnadddlmaaGreatDoor
open Go.RowKit Go.Maps
open Go.WideElems (Fit rd rg pl rd_key rd_val rg_of)
open Go.ChangeMaps (setBlock heap_setBlock_same heap_setBlock_other)
open Go.WideShapes (atKey_sorted)
set_option linter.unusedVariables false

/-- The entry's making is the storing of the value that it has. -/
theorem entry_is_update {H : Type} {P : Program} {w : World} {t k e : TypeId} {R : Value → Option (DataW H × List MemPlace)} {b : Nat} {es : Array MapEntry} {clock : Nat} (K : WideMaps.KeyLaw P k) (ht : P.underlying t = some (.map k e)) {z : Value} (hz : ∀ u : World, (zeroValue e).run P u = .ok z u)
    (hb : w.heap[b]? = some (.map es clock)) (F : Fit P k R es clock) {key : Value} {kl : Lit} (hkey : keyOf P k key = some kl) :
    ∃ (v0 : Value) (st : Nat) (w1 : World), (Instr.mapEntry t (.map (some b)) key).run P w = .ok (.tuple #[v0, goInt st]) w1 ∧ (Instr.mapUpdate t (.map (some b)) key v0).run P w = .ok () w1 := by
  rcases K.find w hkey es.toList F.keys with ⟨h1, h2⟩ | ⟨j, e0, h1, h2, h3⟩
  · exact ⟨z, clock, setBlock w b (.map (es.push ⟨key, z, clock⟩) (clock + 1)), by simp [Instr.mapEntry, run_underlying ht, MapKept.run_getObj_map hb, K.check w false hkey, h1, hz, MapKept.run_setObj_map _ hb, Result.andThen, setBlock],
      by simp [Instr.mapUpdate, run_underlying ht, MapKept.run_getObj_map hb, K.check w false hkey, h1, MapKept.run_setObj_map _ hb, Result.andThen, setBlock]⟩
  · have hj : es[j]? = some e0 := by simpa using h2
    have hs : ∀ x : MapEntry, x = e0 → es.modify j (fun _ => x) = es := fun x hx => by
      subst hx
      apply Array.ext_getElem?
      intro i
      rw [Array.getElem?_modify]
      split
      · rename_i he; subst he; rw [hj]; rfl
      · rfl
    have hm1 : es.modify j (fun e => { e with key := key }) = es := by
      apply Array.ext_getElem?
      intro i
      rw [Array.getElem?_modify]
      split
      · rename_i he; subst he; rw [hj, ← h3]; rfl
      · rfl
    have hm2 : es.modify j (fun e => { e with key := key, val := e0.val }) = es := by
      apply Array.ext_getElem?
      intro i
      rw [Array.getElem?_modify]
      split
      · rename_i he; subst he; rw [hj, ← h3]; rfl
      · rfl
    exact ⟨e0.val, e0.born, setBlock w b (.map es clock), by simp [Instr.mapEntry, run_underlying ht, MapKept.run_getObj_map hb, K.check w false hkey, h1, hj, h3, K.stays w hkey, hm1, MapKept.run_setObj_map _ hb, Result.andThen, setBlock],
      by simp [Instr.mapUpdate, run_underlying ht, MapKept.run_getObj_map hb, K.check w false hkey, h1, hj, h3, K.stays w hkey, hm2, MapKept.run_setObj_map _ hb, Result.andThen, setBlock]⟩
theorem ownsMap_entry {H : Type} {P : Program} {w : World} {k e t : TypeId} {b n : Nat} {D : DataW H} {q : IntKind} (h : w.ownsMap P k (plainElem P e) b n D) (K : WideMaps.KeyLaw P k) (ht : P.underlying t = some (.map k e))
    (hz : ∀ u : World, (zeroValue e).run P u = .ok (.int q 0) u) (he : P.underlying e = some (.int q)) (hn : n < maxLen) {key : Value} {kl : Lit} (hkey : keyOf P k key = some kl) :
    ∃ (c : Int) (st : Nat) (w1 : World), (Instr.mapEntry t (.map (some b)) key).run P w = .ok (.tuple #[.int q c, goInt st]) w1 ∧ D.atKey kl (.lit (.int q 0)) = .lit (.int q c) ∧ w.grownBy w1 (some b) ∧ w1.heap.size = w.heap.size ∧ (Instr.lookup t (.map (some b)) key false).run P w1 = .ok (.int q c) w1 ∧
      ∀ (w2 : World) (x : Int), (Lit.int q x).wf = true → w2.heap[b]? = w1.heap[b]? → ∃ w3, (Instr.entryStore t (.map (some b)) (goInt st) (.int q x)).run P w2 = .ok () w3 ∧ w3.ownsMap P k (plainElem P e) b (n + 1) (D.put kl (.lit (.int q x))) ∧ w2.grownBy w3 (some b) ∧ w3.heap.size = w2.heap.size := by
  have h' := h
  obtain ⟨es, clock, hb, F, hs, hD⟩ := h
  obtain ⟨v0, st, es1, clock1, hrun, hv, hst⟩ := WideElems.entry_then_store K ht hz hb F hkey
  have hat := atKey_sorted (es.toList.map (rg P k (plainElem P e))) (fit_rising (Keyed.of_law K) F) kl ((Keyed.of_law K).key hkey)
  have hc : ∃ c, v0 = .int q c ∧ D.atKey kl (.lit (.int q 0)) = .lit (.int q c) := by
    rcases hv with ⟨e0, hm0, h3, rfl⟩ | ⟨h2, rfl⟩
    · obtain ⟨y0, hy0⟩ := F.reads e0 hm0
      obtain ⟨zv, hzv, hd⟩ := rd_val hy0
      obtain ⟨c, hc, hz2, _⟩ := plainElem_int_inv he hzv
      refine ⟨c, hc, ?_⟩
      have m0 := rd_key hy0
      rw [h3, hkey] at m0
      rw [hD, hat.2 (rg P k (plainElem P e) e0) (List.mem_map.2 ⟨e0, hm0, rfl⟩) (by rw [rg_of hy0]; exact (Option.some.inj m0).symm), rg_of hy0, hd, hz2]
    · refine ⟨0, rfl, ?_⟩
      rw [hD]
      refine hat.1 (fun p hp e1 => ?_) _
      obtain ⟨x, hx, rfl⟩ := List.mem_map.1 hp
      obtain ⟨y, hy⟩ := F.reads x hx
      have m1 := rd_key hy
      rw [rg_of hy] at e1
      rw [e1] at m1
      exact h2 x hx ((Keyed.of_law K).inj m1 hkey)
  obtain ⟨c, rfl, hcat⟩ := hc
  have hlk : (Instr.lookup t (.map (some b)) key false).run P (setBlock w b (.map es1 clock1)) = .ok (.int q c) (setBlock w b (.map es1 clock1)) := by
    obtain ⟨v1, st1, w1, hr1, hu1⟩ := entry_is_update K ht hz hb F hkey
    rw [hrun] at hr1
    simp only [Result.ok.injEq, Value.tuple.injEq, Array.mk.injEq, List.cons.injEq] at hr1
    obtain ⟨⟨e3', _⟩, e2⟩ := hr1
    have e3 : v1 = .int q c := e3'.symm
    subst e3
    have hwc : (Lit.int q c).wf = true := by
      obtain ⟨c2, _, hc2, hwf⟩ := h'.lookup_int (Keyed.of_law K) ht he (hz w) hkey
      rw [hcat] at hc2
      simp only [DataW.lit.injEq, Lit.int.injEq, true_and] at hc2
      rw [hc2]; exact hwf
    obtain ⟨w', hru, ho, _⟩ := h'.update (Keyed.of_law K) ht hn hkey (plainElem_int he hwc)
    rw [hu1] at hru
    simp only [Result.ok.injEq, true_and] at hru
    have e4 := hru
    rw [← e4, ← e2] at ho
    obtain ⟨c3, hl3, hat3, _⟩ := ho.lookup_int (Keyed.of_law K) ht he (hz _) hkey
    rw [atKey_put_same h'.isMap ((Keyed.of_law K).key hkey)] at hat3
    simp only [DataW.lit.injEq, Lit.int.injEq, true_and] at hat3
    rw [← hat3] at hl3
    exact hl3
  refine ⟨c, st, _, hrun, hcat, ⟨rfl, rfl, rfl, by simp [setBlock], fun i _ hi => heap_setBlock_other hb _ (fun e => hi (by rw [e]))⟩, by simp [setBlock], hlk, fun w2 x hx hw2 => ?_⟩
  rw [heap_setBlock_same hb] at hw2
  obtain ⟨es', clock', hr1, hr2⟩ := hst w2 (.int q x) hw2
  obtain ⟨w', hru, ho, _⟩ := h'.update (Keyed.of_law K) ht hn hkey (plainElem_int he hx)
  have e1 : w' = setBlock w b (.map es' clock') := by
    rw [hr2] at hru
    injection hru with _ e
    exact e.symm
  refine ⟨_, hr1, ?_, ⟨rfl, rfl, rfl, by simp [setBlock], fun i _ hi => heap_setBlock_other hw2 _ (fun e => hi (by rw [e]))⟩, by simp [setBlock]⟩
  obtain ⟨es2, clock2, hb2, F2, hs2, hD2⟩ := ho
  refine ⟨es2, clock2, ?_, F2, hs2, hD2⟩
  rw [e1, heap_setBlock_same hb] at hb2
  rw [heap_setBlock_same hw2]
  exact hb2
end Go.Proofs.YtlckamnadddlmaaGreatDoor

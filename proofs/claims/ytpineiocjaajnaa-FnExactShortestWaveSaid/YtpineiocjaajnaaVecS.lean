import Derived.Test.YtpineiocjaajnaaShT
/- The shortest point: the reference's lists of lists, and what it keeps. No condition but small numbers. -/
namespace Go.Proofs.Ytpineiocjaajnaa
open Go.RowKit
set_option linter.unusedVariables false

theorem rTwo_bd {a m x z : Int} {k : Nat} (hm : 0 < m) (h : z ∈ rTwo a m x k) : z.natAbs ≤ m.natAbs := by
  unfold rTwo at h
  split at h
  · simp only [List.mem_cons, List.not_mem_nil, or_false] at h
    rcases h with rfl | rfl | rfl <;> simp
  · have h1 := twoM_abs h
    have h2 := nearM_bd (pwM a m k * x) m hm
    omega
theorem rTwo_len (a m x : Int) (k : Nat) : 1 ≤ (rTwo a m x k).length ∧ (rTwo a m x k).length ≤ 3 := by
  unfold rTwo twoM
  split
  · simp
  · split <;> simp
theorem rL_bd {a m x : Int} (hm : 0 < m) : ∀ k, ∀ l ∈ rL a m x k, ∀ y ∈ l, y.natAbs ≤ m.natAbs + x.natAbs
  | 0, l, h, y, hy => by
    simp only [rL, List.mem_singleton] at h
    subst h
    simp only [List.mem_singleton] at hy
    subst hy; omega
  | k + 1, l, h, y, hy => by
    obtain ⟨l0, h0, z, hz, rfl⟩ := mem_rNext.1 h
    rcases List.mem_append.1 hy with hy | hy
    · exact rL_bd hm k l0 h0 y hy
    · simp only [List.mem_singleton] at hy
      subst hy
      have := rTwo_bd hm hz
      omega
theorem rL_sm {a m x : Int} {k : Nat} (hm : 0 < m ∧ m ≤ 100000) (hx : 0 ≤ x ∧ x ≤ 200000) (hk : k ≤ 3) {l : List Int} (h : l ∈ rL a m x k) : SmL l := by
  refine ⟨by rw [(rL_try k l h).len]; omega, fun j => ?_⟩
  by_cases hj : j < l.length
  · have := rL_bd hm.1 k l h (l.getD j 0) (by rw [getD_eq _ _ hj]; exact List.getElem_mem _)
    omega
  · rw [List.getD, List.getElem?_eq_none (by omega)]; simp
/-- The lists behind i lists. -/
def rN (L : List (List Int)) (T : List Int) (i : Nat) : List (List Int) := rNext (L.take i) T
theorem rN_zero (L : List (List Int)) (T : List Int) : rN L T 0 = [] := by simp [rN, rNext]
theorem rN_succ {L : List (List Int)} {T : List Int} {i : Nat} (h : i < L.length) : rN L T (i + 1) = rN L T i ++ T.map (fun y => L.getD i [] ++ [y]) := by
  unfold rN rNext
  rw [List.take_succ_eq_append_getElem h, List.flatMap_append]
  simp [List.getD, List.getElem?_eq_getElem h]
theorem rN_all (L : List (List Int)) (T : List Int) : rN L T L.length = rNext L T := by unfold rN; rw [List.take_length]
def rM (L : List (List Int)) (T : List Int) (i j : Nat) : List (List Int) := rN L T i ++ (T.take j).map (fun y => L.getD i [] ++ [y])
theorem rM_zero (L : List (List Int)) (T : List Int) (i : Nat) : rM L T i 0 = rN L T i := by simp [rM]
theorem rM_succ {L : List (List Int)} {T : List Int} {i j : Nat} (h : j < T.length) : rM L T i j ++ [L.getD i [] ++ [T.getD j 0]] = rM L T i (j + 1) := by
  unfold rM
  rw [take_snoc _ _ h, List.map_append, List.append_assoc]; rfl
theorem rM_all {L : List (List Int)} {T : List Int} {i : Nat} (h : i < L.length) : rM L T i T.length = rN L T (i + 1) := by
  rw [rN_succ h]; unfold rM; rw [List.take_length]
theorem rNext_len (L : List (List Int)) (T : List Int) : (rNext L T).length = L.length * T.length := by
  unfold rNext
  induction L with
  | nil => simp
  | cons l L ih => rw [List.flatMap_cons, List.length_append, ih, List.length_map, List.length_cons, Nat.succ_mul]; omega
theorem rL_len {a m x : Int} : ∀ k, 1 ≤ (rL a m x k).length ∧ (rL a m x k).length ≤ 3 ^ k
  | 0 => by simp [rL]
  | k + 1 => by
    have h1 := rL_len (a := a) (m := m) (x := x) k
    have h2 := rTwo_len a m x (k + 1)
    rw [rL, rNext_len, Nat.pow_succ]
    exact ⟨Nat.mul_le_mul h1.1 h2.1, Nat.mul_le_mul h1.2 h2.2⟩
theorem rM_len {L : List (List Int)} {T : List Int} {i j : Nat} (hi : i ≤ L.length) (hj : j ≤ T.length) : (rM L T i j).length = i * T.length + j := by
  unfold rM rN
  rw [List.length_append, rNext_len, List.length_map, List.length_take, List.length_take, Nat.min_eq_left hi, Nat.min_eq_left hj]
/-- A list of lists that reads so. -/
def IsLL (w : World) (a : Option Addr) (n : Nat) (ls : List (List Int)) : Prop := ls.length = n ∧ ∀ j, j < n → ∃ b off aj cj, a = some ⟨b, off, none⟩ ∧ w.cell? ⟨b, off + j, none⟩ = some (.slice aj (ls.getD j []).length cj) ∧ IsInts w aj (ls.getD j []).length (ls.getD j [])
theorem IsLL.below {w w' : World} {a : Option Addr} {n : Nat} {ls : List (List Int)} (h : IsLL w a n ls) (hb : Below w.heap.size w w') : IsLL w' a n ls := by
  refine ⟨h.1, fun j hj => ?_⟩
  obtain ⟨b, off, aj, cj, e, hc, hi⟩ := h.2 j hj
  exact ⟨b, off, aj, cj, e, (hb.cell (p := ⟨b, off + j, none⟩) (World.block_lt_of_cell? w _ hc)).trans hc, hi.below hb⟩
theorem IsInts.gr {w w' : World} {row : Option Nat} {g off n : Nat} {zs : List Int} (h : IsInts w (some ⟨g, off, none⟩) n zs) (hg : w.grownBy w' row) (hne : some g ≠ row) : IsInts w' (some ⟨g, off, none⟩) n zs := by
  refine ⟨h.1, fun j hj => ?_⟩
  obtain ⟨b, o, e, hc⟩ := h.2 j hj
  refine ⟨b, o, e, ?_⟩
  simp only [Option.some.injEq, Addr.mk.injEq] at e
  obtain ⟨rfl, rfl, _⟩ := e
  have hl := World.block_lt_of_cell? w _ hc
  rw [World.cell?_of_block (hg.block g hl hne)]
  exact hc
/-- A list of lists that grows. -/
def GLL (w0 wr : World) (v : Value) (ls : List (List Int)) : Prop := ∃ vals : List Value, GrowAt w0 wr 24 v ls.length vals ∧ ∀ j, j < ls.length → ∃ gj cj, vals[j]? = some (.slice (some ⟨gj, 0, none⟩) (ls.getD j []).length cj) ∧ IsInts wr (some ⟨gj, 0, none⟩) (ls.getD j []).length (ls.getD j []) ∧ some gj ≠ v.ownBlock ∧ gj < wr.heap.size
theorem GLL.ret {w0 wr w' : World} {v : Value} {ls : List (List Int)} (h : GLL w0 wr v ls) (hb : Below wr.heap.size wr w') : GLL w0 w' v ls := by
  obtain ⟨vals, h1, h2⟩ := h
  refine ⟨vals, h1.ret hb, fun j hj => ?_⟩
  obtain ⟨gj, cj, e, hi, hn, hl⟩ := h2 j hj
  exact ⟨gj, cj, e, hi.below hb, hn, Nat.lt_of_lt_of_le hl hb.size⟩
theorem GLL.bel {w0 wr : World} {v : Value} {ls : List (List Int)} (h : GLL w0 wr v ls) : Below w0.heap.size w0 wr := by
  obtain ⟨vals, h1, _⟩ := h; exact h1.2
theorem GLL.start (w : World) : GLL w (w.alloc (.cells #[] 24)) (.slice (some ⟨w.heap.size, 0, none⟩) 0 0) [] := ⟨[], GrowAt.start w _, fun j hj => absurd hj (Nat.not_lt_zero j)⟩
theorem GLL.read {w0 wr : World} {a : Option Addr} {n c : Nat} {ls : List (List Int)} (h : GLL w0 wr (.slice a n c) ls) (hn : ls.length = n) : IsLL wr a n ls := by
  obtain ⟨vals, h1, h2⟩ := h
  refine ⟨hn, fun j hj => ?_⟩
  obtain ⟨gj, cj, e, hi, _, _⟩ := h2 j (by omega)
  rw [hn] at h1
  rcases h1.1.2 with ⟨e0, h0⟩ | ⟨g, c', cur, e0, _⟩
  · omega
  · injection e0 with e1 e2 e3
    subst e1
    have := h1.1.cellAt j (by omega)
    refine ⟨g, 0, _, cj, rfl, ?_, hi⟩
    rw [Nat.zero_add, this]; exact e
/-- One list more. -/
theorem GLL.push {w0 wr w7 : World} {v v' : Value} {ls : List (List Int)} {x : List Int} {g c : Nat} {vals : List Value} (hG : GrowAt w0 wr 24 v ls.length vals)
    (hV : ∀ j, j < ls.length → ∃ gj cj, vals[j]? = some (.slice (some ⟨gj, 0, none⟩) (ls.getD j []).length cj) ∧ IsInts wr (some ⟨gj, 0, none⟩) (ls.getD j []).length (ls.getD j []) ∧ some gj ≠ v.ownBlock ∧ gj < wr.heap.size)
    (hx : IsInts wr (some ⟨g, 0, none⟩) x.length x) (hgl : g < wr.heap.size) (hne : some g ≠ v.ownBlock)
    (hown : w7.ownsRow w0.heap.size 24 1 v' (ls.length + 1) (vals ++ [.slice (some ⟨g, 0, none⟩) x.length c])) (hg : wr.grownBy w7 v.ownBlock) (hat : v'.ownBlock = v.ownBlock ∨ v'.ownBlock = some wr.heap.size) : GLL w0 w7 v' (ls ++ [x]) := by
  have hvl : vals.length = ls.length := by simpa using hG.1.1
  have hnew : ∀ k, k < wr.heap.size → some k ≠ v.ownBlock → some k ≠ v'.ownBlock := by
    intro k hk hn e
    rcases hat with h | h
    · rw [h] at e; exact hn e
    · rw [h] at e; injection e; omega
  refine ⟨vals ++ [.slice (some ⟨g, 0, none⟩) x.length c], ⟨by rw [List.length_append]; exact hown, below_grown hG.2 hG.1 hg hG.2.size⟩, fun j hj => ?_⟩
  rw [List.length_append] at hj
  by_cases h1 : j < ls.length
  · obtain ⟨gj, cj, e, hi, hn, hl⟩ := hV j h1
    have e2 : (ls ++ [x]).getD j [] = ls.getD j [] := by rw [List.getD, List.getD, List.getElem?_append_left h1]
    rw [e2]
    exact ⟨gj, cj, by rw [List.getElem?_append_left (by rw [hvl]; exact h1)]; exact e, hi.gr hg hn, hnew gj hl hn, Nat.lt_of_lt_of_le hl hg.size⟩
  · obtain rfl : j = ls.length := by simp only [List.length_cons, List.length_nil] at hj; omega
    have e2 : (ls ++ [x]).getD ls.length [] = x := by rw [List.getD, List.getElem?_append_right (Nat.le_refl _)]; simp
    rw [e2]
    exact ⟨g, c, by rw [List.getElem?_append_right (by omega), hvl]; simp, hx.gr hg hne, hnew g hgl hne, Nat.lt_of_lt_of_le hgl hg.size⟩
/-- What the reference's choice keeps behind some tried lists. -/
structure FoldI (a m : Int) (D : Nat) (done : List (List Int)) (c0 c : List Int) : Prop where
  kd : c = [] ∨ IsPt a m D c
  seen : ∀ l ∈ done, 0 < sqL l → c ≠ [] ∧ geB c (sgnL l)
  old : c0 ≠ [] → c ≠ [] ∧ geB c c0
theorem FoldI.start {a m : Int} {D : Nat} {c : List Int} (h : c = [] ∨ IsPt a m D c) : FoldI a m D [] c c := ⟨h, fun l hl => (by cases hl), fun h => ⟨h, geB_refl c⟩⟩
theorem FoldI.step {a m x : Int} {k : Nat} {done : List (List Int)} {c0 c l : List Int} (hc0 : c0 = [] ∨ c0.length = k + 1) (hdone : ∀ y ∈ done, y.length = k + 1) (h : FoldI a m (k + 1) done c0 c) (hl : l ∈ rL a m x k) : FoldI a m (k + 1) (done ++ [l]) c0 (bestT c l) := by
  have hll := (rL_try k l hl).len
  by_cases hz : 0 < sqL l
  · have hk := try_kind hl hz
    have hT : bestT c l = bestR c l := by unfold bestT; rw [if_pos hz]
    by_cases hc : c = []
    · subst hc
      have e : bestT [] l = sgnL l := by rw [hT]; unfold bestR; rw [if_pos rfl]
      rw [e]
      have hne : sgnL l ≠ [] := by intro h; have := hk.len; rw [h] at this; simp at this
      refine ⟨Or.inr hk, fun y hy hq => ?_, fun h1 => absurd rfl (h.old h1).1⟩
      rcases List.mem_append.1 hy with hy | hy
      · exact absurd rfl (h.seen y hy hq).1
      · simp only [List.mem_singleton] at hy
        subst hy
        exact ⟨hne, geB_refl _⟩
    · have hck : IsPt a m (k + 1) c := by rcases h.kd with h | h; exact absurd h hc; exact h
      obtain ⟨g1, g2⟩ := bestT_ge (l := l) hc
      have hbk : IsPt a m (k + 1) (bestT c l) := by
        rw [hT]; unfold bestR; rw [if_neg hc]
        split
        · exact hk
        · exact hck
      have hne : bestT c l ≠ [] := by intro h; have := hbk.len; rw [h] at this; simp at this
      refine ⟨Or.inr hbk, fun y hy hq => ⟨hne, ?_⟩, fun h1 => ⟨hne, ?_⟩⟩
      · rcases List.mem_append.1 hy with hy | hy
        · exact geB_trans (by rw [hbk.len, hck.len]) (by rw [hck.len, sgnL_len, hdone y hy]) g1 (h.seen y hy hq).2
        · simp only [List.mem_singleton] at hy
          subst hy
          exact g2 hq
      · exact geB_trans (by rw [hbk.len, hck.len]) (by rw [hck.len]; rcases hc0 with h2 | h2; exact absurd h2 h1; exact h2.symm) g1 (h.old h1).2
  · have hT : bestT c l = c := by unfold bestT; rw [if_neg hz]
    rw [hT]
    refine ⟨h.kd, fun y hy hq => ?_, h.old⟩
    rcases List.mem_append.1 hy with hy | hy
    · exact h.seen y hy hq
    · simp only [List.mem_singleton] at hy
      subst hy
      exact absurd hq hz
/-- What the reference's search keeps. -/
def PtR (a m : Int) (D : Nat) (c : List Int) (x : Nat) : Prop := (x = 0 ∧ c = []) ∨ (IsPt a m D c ∧ sqL c ≤ m * m ∧ ∀ i : Nat, i < x → Seen (IsPt a m D) c [(i : Int)])
theorem first_in {a m : Int} : ∀ k, (List.replicate (k + 1) 0 ++ [m]) ∈ rL a m 0 (k + 1) ∧ (List.replicate (k + 1) 0) ∈ rL a m 0 k
  | 0 => by
    refine ⟨?_, by simp [rL]⟩
    rw [rL]
    exact mem_rNext.2 ⟨[0], by simp [rL], m, by simp [rTwo], rfl⟩
  | k + 1 => by
    have h := first_in (a := a) (m := m) k
    have h2 : List.replicate (k + 2) (0 : Int) ∈ rL a m 0 (k + 1) := by
      rw [rL]
      refine mem_rNext.2 ⟨_, h.2, 0, by simp [rTwo], ?_⟩
      rw [show k + 2 = (k + 1) + 1 from rfl, List.replicate_succ']
    refine ⟨?_, h2⟩
    rw [rL]
    exact mem_rNext.2 ⟨_, h2, m, by simp [rTwo], rfl⟩
theorem PtR.step {a m : Int} {k : Nat} {c c2 : List Int} {x : Nat} (hm : 0 < m) (hk : 1 ≤ k) (h : PtR a m (k + 1) c x) (hf : FoldI a m (k + 1) (rL a m (x : Int) k) c c2) : PtR a m (k + 1) c2 (x + 1) := by
  have hseen : c2 ≠ [] → Seen (IsPt a m (k + 1)) c2 [(x : Int)] := fun _ => try_seen hm fun l hl hq => (hf.seen l hl hq).2
  right
  rcases h with ⟨rfl, rfl⟩ | ⟨h1, h2, h3⟩
  · obtain ⟨j, rfl⟩ : ∃ j, k = j + 1 := ⟨k - 1, by omega⟩
    have hin := (first_in (a := a) (m := m) j).1
    have hsq : sqL (List.replicate (j + 1) 0 ++ [m]) = m * m := by
      rw [sqL_push]
      have : ∀ n : Nat, sqL (List.replicate n 0) = 0 := by
        intro n
        induction n with
        | zero => rfl
        | succ n ih => rw [List.replicate_succ, sqL, ih]; rfl
      rw [this]; omega
    have hmm : 0 < m * m := Int.mul_pos hm hm
    obtain ⟨hne, hge⟩ := hf.seen _ hin (by rw [hsq]; exact hmm)
    have hkd : IsPt a m (j + 1 + 1) c2 := by rcases hf.kd with h | h; exact absurd h hne; exact h
    refine ⟨hkd, ?_, fun i hi => ?_⟩
    · have := geB_sq hge
      rw [sgnL_sq, hsq] at this; exact this
    · obtain rfl : i = 0 := by omega
      exact hseen hne
  · have hcne : c ≠ [] := by intro h; have := h1.len; rw [h] at this; simp at this
    obtain ⟨hne, hge⟩ := hf.old hcne
    have hkd : IsPt a m (k + 1) c2 := by rcases hf.kd with h | h; exact absurd h hne; exact h
    refine ⟨hkd, Int.le_trans (geB_sq hge) h2, fun i hi => ?_⟩
    by_cases h : i = x
    · rw [h]; exact hseen hne
    · exact (h3 i (by omega)).mono IsPt.hl hkd.len h1.len hge
end Go.Proofs.Ytpineiocjaajnaa

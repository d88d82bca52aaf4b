import Derived.Test.YtaneocedklnajaaGreatPMeanX
/- Sums of the values of two laws and their chances, as plain lists. No condition. -/
namespace Go.Proofs.YtaneocedklnajaaGreat
open Go.RowKit
set_option linter.unusedVariables false

/-- The chance of a value among the first pairs. -/
def gS (pv : Nat → Int) (pr : Nat → Rat) (j : Int) : Nat → Rat
  | 0 => 0
  | m + 1 => if pv m = j then gS pv pr j m + pr m else gS pv pr j m
/-- The values of the first pairs, each once, as they come. -/
def vsT (pv : Nat → Int) : Nat → List Int
  | 0 => []
  | m + 1 => if pv m ∈ vsT pv m then vsT pv m else vsT pv m ++ [pv m]
/-- A number put into an ascending list. -/
def putL : List Int → Int → List Int
  | [], n => [n]
  | x :: l, n => if n < x then n :: x :: l else if n = x then x :: l else x :: putL l n
def setT (pv : Nat → Int) : Nat → List Int
  | 0 => []
  | m + 1 => putL (setT pv m) (pv m)
theorem mem_vsT {pv : Nat → Int} {x : Int} : ∀ {m : Nat}, x ∈ vsT pv m ↔ ∃ t, t < m ∧ pv t = x
  | 0 => ⟨fun h => by simp [vsT] at h, fun ⟨t, h, _⟩ => absurd h (Nat.not_lt_zero t)⟩
  | m + 1 => by
    have ih := @mem_vsT pv x m
    rw [vsT]
    constructor
    · intro h
      by_cases e : pv m ∈ vsT pv m
      · rw [if_pos e] at h
        obtain ⟨t, h1, h2⟩ := ih.1 h
        exact ⟨t, by omega, h2⟩
      · rw [if_neg e, List.mem_append] at h
        rcases h with h | h
        · obtain ⟨t, h1, h2⟩ := ih.1 h
          exact ⟨t, by omega, h2⟩
        · simp at h
          exact ⟨m, by omega, h.symm⟩
    · rintro ⟨t, h1, h2⟩
      by_cases e : pv m ∈ vsT pv m
      · rw [if_pos e]
        rcases Nat.lt_or_ge t m with h | h
        · exact ih.2 ⟨t, h, h2⟩
        · obtain rfl : t = m := by omega
          rw [← h2]; exact e
      · rw [if_neg e, List.mem_append]
        rcases Nat.lt_or_ge t m with h | h
        · exact Or.inl (ih.2 ⟨t, h, h2⟩)
        · obtain rfl : t = m := by omega
          right; simp [h2]
theorem vsT_len (pv : Nat → Int) : ∀ m, (vsT pv m).length ≤ m
  | 0 => Nat.le_refl _
  | m + 1 => by
    have := vsT_len pv m
    rw [vsT]
    split
    · omega
    · rw [List.length_append]; simp; omega
theorem vsT_nodup (pv : Nat → Int) : ∀ m, (vsT pv m).Nodup
  | 0 => List.nodup_nil
  | m + 1 => by
    have := vsT_nodup pv m
    rw [vsT]
    split
    · exact this
    · rename_i h
      rw [List.nodup_append]
      exact ⟨this, by simp, fun a ha b hb => by simp at hb; subst hb; intro e; subst e; exact h ha⟩
theorem gS_none {pv : Nat → Int} {pr : Nat → Rat} {j : Int} : ∀ {m : Nat}, j ∉ vsT pv m → gS pv pr j m = 0
  | 0, _ => rfl
  | m + 1, h => by
    have h1 : j ∉ vsT pv m := fun h2 => h (by
      obtain ⟨t, a, b⟩ := mem_vsT.1 h2
      exact mem_vsT.2 ⟨t, by omega, b⟩)
    have h2 : pv m ≠ j := fun e => h (mem_vsT.2 ⟨m, by omega, e⟩)
    rw [gS, if_neg h2, gS_none h1]
theorem gS_bits {pv : Nat → Int} {pr : Nat → Rat} {j : Int} {b : Nat} : ∀ {m : Nat}, (∀ t, t < m → bitsR (pr t) b) → bitsR (gS pv pr j m) ((b + 1) * m + 1)
  | 0, _ => bits_zero
  | m + 1, h => by
    have h1 := gS_bits (pv := pv) (j := j) (m := m) (fun t ht => h t (by omega))
    rw [gS]
    split
    · exact (bits_add h1 (h m (by omega))).mono (by rw [Nat.mul_succ]; omega)
    · exact h1.mono (by rw [Nat.mul_succ]; omega)
theorem mem_putL {x n : Int} : ∀ {l : List Int}, x ∈ putL l n ↔ x = n ∨ x ∈ l
  | [] => by simp [putL]
  | y :: l => by
    rw [putL]
    split
    · simp
    · split
      · rename_i h; subst h; simp
      · rw [List.mem_cons, mem_putL, List.mem_cons]
        constructor
        · rintro (h | h | h)
          · exact Or.inr (Or.inl h)
          · exact Or.inl h
          · exact Or.inr (Or.inr h)
        · rintro (h | h | h)
          · exact Or.inr (Or.inl h)
          · exact Or.inl h
          · exact Or.inr (Or.inr h)
theorem putL_sorted {n : Int} : ∀ {l : List Int}, l.Pairwise (· < ·) → (putL l n).Pairwise (· < ·)
  | [], _ => by simp [putL]
  | y :: l, h => by
    rw [List.pairwise_cons] at h
    rw [putL]
    split
    · rename_i h1
      rw [List.pairwise_cons, List.pairwise_cons]
      refine ⟨fun z hz => ?_, h⟩
      rcases List.mem_cons.1 hz with e | e
      · rw [e]; exact h1
      · have := h.1 z e; omega
    · split
      · exact List.pairwise_cons.2 h
      · rename_i h1 h2
        rw [List.pairwise_cons]
        refine ⟨fun z hz => ?_, putL_sorted h.2⟩
        rcases mem_putL.1 hz with e | e
        · omega
        · exact h.1 z e
theorem putL_len {n : Int} : ∀ {l : List Int}, (putL l n).length ≤ l.length + 1
  | [] => by simp [putL]
  | y :: l => by
    have := putL_len (n := n) (l := l)
    rw [putL]
    split
    · simp
    · split
      · simp
      · simp; omega
theorem mem_setT {pv : Nat → Int} {x : Int} : ∀ {m : Nat}, x ∈ setT pv m ↔ ∃ t, t < m ∧ pv t = x
  | 0 => ⟨fun h => by simp [setT] at h, fun ⟨t, h, _⟩ => absurd h (Nat.not_lt_zero t)⟩
  | m + 1 => by
    have ih := @mem_setT pv x m
    rw [setT, mem_putL]
    constructor
    · rintro (h | h)
      · exact ⟨m, by omega, h.symm⟩
      · obtain ⟨t, h1, h2⟩ := ih.1 h
        exact ⟨t, by omega, h2⟩
    · rintro ⟨t, h1, h2⟩
      rcases Nat.lt_or_ge t m with h | h
      · exact Or.inr (ih.2 ⟨t, h, h2⟩)
      · obtain rfl : t = m := by omega
        exact Or.inl h2.symm
theorem setT_sorted (pv : Nat → Int) : ∀ m, (setT pv m).Pairwise (· < ·)
  | 0 => List.Pairwise.nil
  | m + 1 => putL_sorted (setT_sorted pv m)
theorem setT_len (pv : Nat → Int) : ∀ m, (setT pv m).length ≤ m
  | 0 => Nat.le_refl _
  | m + 1 => Nat.le_trans putL_len (Nat.succ_le_succ (setT_len pv m))
theorem sorted_ext : ∀ {l l' : List Int}, l.Pairwise (· < ·) → l'.Pairwise (· < ·) → (∀ x, x ∈ l ↔ x ∈ l') → l = l'
  | [], [], _, _, _ => rfl
  | [], y :: l', _, _, h => absurd ((h y).2 (by simp)) (by simp)
  | x :: l, [], _, _, h => absurd ((h x).1 (by simp)) (by simp)
  | x :: l, y :: l', h1, h2, h => by
    rw [List.pairwise_cons] at h1 h2
    have e : x = y := by
      rcases List.mem_cons.1 ((h x).1 (by simp)) with e | e
      · exact e
      · rcases List.mem_cons.1 ((h y).2 (by simp)) with f | f
        · exact f.symm
        · have := h2.1 x e
          have := h1.1 y f
          omega
    subst e
    rw [sorted_ext h1.2 h2.2 (fun z => ?_)]
    constructor
    · intro hz
      rcases List.mem_cons.1 ((h z).1 (List.mem_cons_of_mem _ hz)) with e | e
      · have := h1.1 z hz; omega
      · exact e
    · intro hz
      rcases List.mem_cons.1 ((h z).2 (List.mem_cons_of_mem _ hz)) with e | e
      · have := h2.1 z hz; omega
      · exact e
theorem nodup_strict {l : List Int} (h1 : l.Pairwise (· ≤ ·)) (h2 : l.Nodup) : l.Pairwise (· < ·) := by
  have := List.pairwise_and_iff.2 ⟨h1, h2⟩
  exact this.imp fun {a b} h => by
    have h3 := h.1
    have h4 : a ≠ b := h.2
    omega
theorem sort_vsT (pv : Nat → Int) (m : Nat) : (vsT pv m).mergeSort (fun x y => decide (x ≤ y)) = setT pv m := by
  have hp := List.mergeSort_perm (vsT pv m) (fun x y => decide (x ≤ y))
  refine sorted_ext (nodup_strict ?_ (hp.nodup_iff.2 (vsT_nodup pv m))) (setT_sorted pv m) fun x => ?_
  · have := List.pairwise_mergeSort (le := fun x y : Int => decide (x ≤ y)) (by intro a b c h1 h2; simp at h1 h2 ⊢; omega) (by intro a b; simp; omega) (vsT pv m)
    exact this.imp fun h => by simpa using h
  · rw [hp.mem_iff, mem_vsT, mem_setT]
theorem vsT_setT_len (pv : Nat → Int) (m : Nat) : (vsT pv m).length = (setT pv m).length := by
  rw [← sort_vsT]; exact (List.length_mergeSort _).symm
theorem setT_at {pv : Nat → Int} {m k : Nat} (h : k < (setT pv m).length) : (setT pv m).getD k 0 ∈ setT pv m := by
  rw [getD_eq _ _ h]; exact List.getElem_mem _

/-- The numbers of the pairs that have a value. -/
def idxT (pv : Nat → Int) (j : Int) (m : Nat) : List Nat := (List.range m).filter fun t => decide (pv t = j)
theorem idxT_yes {pv : Nat → Int} {j : Int} {m : Nat} (h : pv m = j) : idxT pv j (m + 1) = idxT pv j m ++ [m] := by
  unfold idxT; rw [List.range_succ, List.filter_append]; simp [h]
theorem idxT_no {pv : Nat → Int} {j : Int} {m : Nat} (h : pv m ≠ j) : idxT pv j (m + 1) = idxT pv j m := by
  unfold idxT; rw [List.range_succ, List.filter_append]; simp [h]
theorem mem_idxT {pv : Nat → Int} {j : Int} {m t : Nat} : t ∈ idxT pv j m ↔ t < m ∧ pv t = j := by
  unfold idxT; simp
theorem idxT_nodup (pv : Nat → Int) (j : Int) (m : Nat) : (idxT pv j m).Nodup := List.Nodup.sublist List.filter_sublist List.nodup_range
theorem sumW_same {R S : Nat → Rat} : ∀ {n : Nat}, (∀ k, k < n → R k = S k) → B30.sumW R n = B30.sumW S n
  | 0, _ => rfl
  | n + 1, h => by rw [B30.sumW, B30.sumW, sumW_same (fun k hk => h k (by omega)), h n (by omega)]
theorem gS_idx (pv : Nat → Int) (pr : Nat → Rat) (j : Int) : ∀ m, B30.sumW (fun q => pr ((idxT pv j m).getD q 0)) (idxT pv j m).length = gS pv pr j m
  | 0 => rfl
  | m + 1 => by
    have ih := gS_idx pv pr j m
    by_cases e : pv m = j
    · rw [idxT_yes e, List.length_append, List.length_singleton, B30.sumW, gS, if_pos e, ← ih]
      congr 1
      · exact sumW_same fun k hk => by simp [List.getD, List.getElem?_append_left hk]
      · simp [List.getD]
    · rw [idxT_no e, ih, gS, if_neg e]
theorem pigeon : ∀ (N : Nat) (l : List Nat), l.Nodup → (∀ x ∈ l, x < N) → l.length ≤ N
  | 0, l, _, h => by
    cases l with
    | nil => simp
    | cons a l => exact absurd (h a (by simp)) (Nat.not_lt_zero a)
  | N + 1, l, hn, h => by
    by_cases hm : N ∈ l
    · have h1 := pigeon N (l.erase N) (hn.erase N) (fun x hx => by
        rw [hn.mem_erase_iff] at hx
        have := h x hx.2
        omega)
      rw [List.length_erase_of_mem hm] at h1
      omega
    · have h1 := pigeon N l hn (fun x hx => by
        have := h x hx
        have : x ≠ N := fun e => hm (by rw [← e]; exact hx)
        omega)
      omega
theorem idxT_short {pv : Nat → Int} {j : Int} {m N : Nat} (q : Nat → Nat) (h1 : ∀ t, t < m → q t < N) (h2 : ∀ s t, s < m → t < m → pv s = pv t → q s = q t → s = t) : (idxT pv j m).length ≤ N := by
  have h3 := pigeon N ((idxT pv j m).map q) ?_ ?_
  · rwa [List.length_map] at h3
  · refine List.pairwise_map.2 ((idxT_nodup pv j m).imp_of_mem ?_)
    intro s t hs ht hne e
    rw [mem_idxT] at hs ht
    exact hne (h2 s t hs.1 ht.1 (by rw [hs.2, ht.2]) e)
  · intro x hx
    obtain ⟨t, ht, rfl⟩ := List.mem_map.1 hx
    exact h1 t (mem_idxT.1 ht).1

/-- The value and the chance of a pair. -/
def jpv (vs us : List Int) (n : Nat) (t : Nat) : Int := vs.getD (t / n) 0 + us.getD (t % n) 0
def jpr (fs gs : List Int) (n : Nat) (t : Nat) : Rat := frR fs (t / n) * frR gs (t % n)
def jV (vs us : List Int) (m n : Nat) : List Int := setT (jpv vs us n) (m * n)
def jR (vs fs us gs : List Int) (m n : Nat) (k : Nat) : Rat := gS (jpv vs us n) (jpr fs gs n) ((jV vs us m n).getD k 0) (m * n)
def flR (R : Nat → Rat) : Nat → List Int
  | 0 => []
  | k + 1 => flR R k ++ [(R k).num, ((R k).den : Nat)]
def jF (vs fs us gs : List Int) (m n : Nat) : List Int := flR (jR vs fs us gs m n) (jV vs us m n).length
def fitT (R : Nat → Rat) (s : Nat) : Bool := (List.range s).all fun k => fitR (R k)
def jOk (vs fs us gs : List Int) (m n : Nat) : Bool := decide ((jV vs us m n).length ≤ 64) && (fitT (jR vs fs us gs m n) (jV vs us m n).length && lawOk (jV vs us m n) (jF vs fs us gs m n) (jV vs us m n).length (jV vs us m n).length)
theorem flR_len (R : Nat → Rat) : ∀ k, (flR R k).length = k * 2
  | 0 => rfl
  | k + 1 => by rw [flR, List.length_append, flR_len R k]; simp; omega
theorem pair_div {n i k : Nat} (hk : k < n) : (i * n + k) / n = i ∧ (i * n + k) % n = k := by
  constructor
  · rw [Nat.mul_comm, Nat.mul_add_div (by omega), Nat.div_eq_of_lt hk, Nat.add_zero]
  · rw [Nat.mul_comm, Nat.mul_add_mod, Nat.mod_eq_of_lt hk]
theorem pair_lt {m n i k : Nat} (hi : i < m) (hk : k < n) : i * n + k < m * n := by
  have : (i + 1) * n ≤ m * n := Nat.mul_le_mul_right n hi
  rw [Nat.succ_mul] at this
  omega
theorem pair_of {m n t : Nat} (h : t < m * n) : t / n < m ∧ t % n < n := by
  have hn : 0 < n := by
    rcases Nat.eq_zero_or_pos n with e | e
    · subst e; simp at h
    · exact e
  exact ⟨Nat.div_lt_of_lt_mul (by rw [Nat.mul_comm]; exact h), Nat.mod_lt _ hn⟩
theorem jpv_rng {vs us fs gs : List Int} {m n t : Nat} (h1 : LawQ vs fs m) (h2 : LawQ us gs n) (ht : t < m * n) : -2000000000000000 ≤ jpv vs us n t ∧ jpv vs us n t ≤ 2000000000000000 := by
  obtain ⟨a, b⟩ := pair_of ht
  have := h1.rng _ a
  have := h2.rng _ b
  unfold jpv
  omega
theorem jpr_bits {vs us fs gs : List Int} {m n t : Nat} (h1 : LawQ vs fs m) (h2 : LawQ us gs n) (ht : t < m * n) : bitsR (jpr fs gs n t) 120 := by
  obtain ⟨a, b⟩ := pair_of ht
  exact bits_mul (frR_bits (h1.ok _ a)) (frR_bits (h2.ok _ b))
theorem jidx_short {vs us fs gs : List Int} {m n : Nat} (h1 : LawQ vs fs m) (h2 : LawQ us gs n) (j : Int) (M : Nat) (hM : M ≤ m * n) : (idxT (jpv vs us n) j M).length ≤ 64 := by
  refine Nat.le_trans (idxT_short (N := m) (fun t => t / n) (fun t ht => (pair_of (Nat.lt_of_lt_of_le ht hM)).1) ?_) h1.n64
  intro s t hs ht e1 e2
  obtain ⟨a, b⟩ := pair_of (Nat.lt_of_lt_of_le hs hM)
  obtain ⟨c, d⟩ := pair_of (Nat.lt_of_lt_of_le ht hM)
  unfold jpv at e1
  rw [e2] at e1
  have e3 : s % n = t % n := by
    rcases Nat.lt_trichotomy (s % n) (t % n) with h | h | h
    · have := h2.mono _ _ h d; omega
    · exact h
    · have := h2.mono _ _ h b; omega
  have h5 := Nat.div_add_mod s n
  have h6 := Nat.div_add_mod t n
  rw [← h5, ← h6, e3]
  show n * (s / n) + t % n = n * (t / n) + t % n
  rw [show s / n = t / n from e2]
theorem jR_bits {vs us fs gs : List Int} {m n k : Nat} (h1 : LawQ vs fs m) (h2 : LawQ us gs n) (j : Int) (M : Nat) (hM : M ≤ m * n) : bitsR (gS (jpv vs us n) (jpr fs gs n) j M) 500000 := by
  have h3 : m * n ≤ 64 * 64 := Nat.mul_le_mul h1.n64 h2.n64
  refine (gS_bits (b := 120) fun t ht => jpr_bits h1 h2 (Nat.lt_of_lt_of_le ht hM)).mono ?_
  omega
end Go.Proofs.YtaneocedklnajaaGreat

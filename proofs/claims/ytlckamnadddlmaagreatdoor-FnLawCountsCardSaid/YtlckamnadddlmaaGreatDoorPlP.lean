import Derived.Test.YtlckamnadddlmaaGreatDoorBase
/- States of a machine that reads bits, counted over all strings of bits: plain facts for the law of patterns. No condition. -/
namespace Go.Proofs.YtlckamnadddlmaaGreatDoor
set_option linter.unusedVariables false
set_option linter.unusedSectionVars false
section
variable {S : Type} [DecidableEq S]
/-- All states, each as often as strings of bits lead to it. -/
def stL (nx : Nat → S → Bool → S) (a0 : S) : Nat → List S
  | 0 => [a0]
  | i + 1 => (stL nx a0 i).map (nx i · false) ++ (stL nx a0 i).map (nx i · true)
theorem stL_len (nx : Nat → S → Bool → S) (a0 : S) : ∀ i, (stL nx a0 i).length = 2 ^ i
  | 0 => rfl
  | i + 1 => by rw [stL, List.length_append, List.length_map, List.length_map, stL_len nx a0 i, Nat.pow_succ]; omega
theorem stL_count_le (nx : Nat → S → Bool → S) (a0 : S) (i : Nat) (p : S) : (stL nx a0 i).count p ≤ 2 ^ i := by
  rw [← stL_len nx a0 i]; exact List.count_le_length
/-- The steps out of states. -/
def bothL (L : List S) : List (S × Bool) := L.map (·, false) ++ L.map (·, true)
theorem count_pair (L : List S) (p : S) (b c : Bool) : (L.map (·, b)).count (p, c) = if b = c then L.count p else 0 := by
  induction L with
  | nil => simp
  | cons x L ih =>
    rw [List.map_cons, List.count_cons, ih, List.count_cons]
    by_cases hb : b = c
    · subst hb
      rw [if_pos rfl, if_pos rfl]
      by_cases hx : x = p
      · subst hx; simp
      · have h1 : ((x, b) == (p, b)) = false := by simp [hx]
        have h2 : (x == p) = false := by simp [hx]
        rw [h1, h2]
    · rw [if_neg hb, if_neg hb]
      have h1 : ((x, b) == (p, c)) = false := by simp [hb]
      rw [h1]; simp
theorem both_count (L : List S) (p : S) (c : Bool) : (bothL L).count (p, c) = L.count p := by
  unfold bothL
  rw [List.count_append, count_pair, count_pair]
  cases c <;> simp
/-- How many of the steps that are done lead to q. -/
def doneN (L : List S) (nx : S → Bool → S) (left : S × Bool → Bool) (q : S) : Nat := (bothL L).countP (fun x => !left x && decide (nx x.1 x.2 = q))
theorem countP_strike {α : Type} [BEq α] [LawfulBEq α] (l : List α) (left left' P : α → Bool) (x0 : α) (h0 : left x0 = true) (h' : left' x0 = false) (hne : ∀ x, x ≠ x0 → left' x = left x) :
    l.countP (fun x => !left' x && P x) = l.countP (fun x => !left x && P x) + (if P x0 then l.count x0 else 0) := by
  induction l with
  | nil => simp
  | cons x l ih =>
    rw [List.countP_cons, List.countP_cons, ih, List.count_cons]
    by_cases hx : x = x0
    · subst hx
      rw [h0, h']
      cases P x <;> simp
      omega
    · rw [hne x hx]
      have h2 : (x == x0) = false := by simp [hx]
      rw [h2]
      simp
      omega
theorem doneN_strike (L : List S) (nx : S → Bool → S) (left left' : S × Bool → Bool) (q : S) (p : S) (b : Bool) (h0 : left (p, b) = true) (h' : left' (p, b) = false) (hne : ∀ x, x ≠ (p, b) → left' x = left x) :
    doneN L nx left' q = doneN L nx left q + (if nx p b = q then L.count p else 0) := by
  unfold doneN
  rw [countP_strike (bothL L) left left' (fun x => decide (nx x.1 x.2 = q)) (p, b) h0 h' hne, both_count]
  by_cases h : nx p b = q <;> simp [h]
theorem doneN_start (L : List S) (nx : S → Bool → S) (left : S × Bool → Bool) (q : S) (h : ∀ p ∈ L, ∀ b, left (p, b) = true) : doneN L nx left q = 0 := by
  unfold doneN
  rw [List.countP_eq_zero]
  intro x hx
  unfold bothL at hx
  have : left x = true := by
    obtain ⟨p, b⟩ := x
    refine h p ?_ b
    simp only [List.mem_append, List.mem_map, Prod.mk.injEq] at hx
    rcases hx with ⟨a, ha, rfl, _⟩ | ⟨a, ha, rfl, _⟩ <;> exact ha
  simp [this]
theorem doneN_end (nx : Nat → S → Bool → S) (a0 : S) (i : Nat) (left : S × Bool → Bool) (q : S) (h : ∀ x, x.1 ∈ stL nx a0 i → left x = false) : doneN (stL nx a0 i) (nx i) left q = (stL nx a0 (i + 1)).count q := by
  unfold doneN bothL
  rw [stL, List.countP_append, List.count_append]
  unfold List.count
  rw [List.countP_map, List.countP_map, List.countP_map, List.countP_map]
  congr 1
  · apply List.countP_congr
    intro x hx
    simp [h (x, false) hx]
  · apply List.countP_congr
    intro x hx
    simp [h (x, true) hx]
theorem doneN_le (nx : Nat → S → Bool → S) (a0 : S) (i : Nat) (left : S × Bool → Bool) (q : S) : doneN (stL nx a0 i) (nx i) left q ≤ 2 ^ (i + 1) := by
  unfold doneN bothL
  refine Nat.le_trans List.countP_le_length ?_
  rw [List.length_append, List.length_map, List.length_map, stL_len, Nat.pow_succ]; omega
/-- How many of the states that are done have a mark. -/
def markN {α : Type} (L : List α) (left P : α → Bool) : Nat := L.countP (fun x => !left x && P x)
theorem markN_strike {α : Type} [BEq α] [LawfulBEq α] (L : List α) (left left' P : α → Bool) (x0 : α) (h0 : left x0 = true) (h' : left' x0 = false) (hne : ∀ x, x ≠ x0 → left' x = left x) :
    markN L left' P = markN L left P + (if P x0 then L.count x0 else 0) := countP_strike L left left' P x0 h0 h' hne
theorem markN_start {α : Type} (L : List α) (left P : α → Bool) (h : ∀ p ∈ L, left p = true) : markN L left P = 0 := by
  unfold markN; rw [List.countP_eq_zero]; intro x hx; simp [h x hx]
theorem markN_end {α : Type} (L : List α) (left P : α → Bool) (h : ∀ p ∈ L, left p = false) : markN L left P = L.countP P := by
  unfold markN; apply List.countP_congr; intro x hx; simp [h x hx]
theorem markN_le {α : Type} (L : List α) (left P : α → Bool) : markN L left P ≤ L.length := List.countP_le_length
end
/-- Two machines side by side. -/
def pairNx {S S' : Type} (nx : Nat → S → Bool → S) (nx' : Nat → S' → Bool → S') (i : Nat) (p : S × S') (b : Bool) : S × S' := (nx i p.1 b, nx' i p.2 b)
theorem pair_fst {S S' : Type} (nx : Nat → S → Bool → S) (nx' : Nat → S' → Bool → S') (a : S) (a' : S') : ∀ i, (stL (pairNx nx nx') (a, a') i).map Prod.fst = stL nx a i
  | 0 => rfl
  | i + 1 => by
    rw [stL, stL, List.map_append, List.map_map, List.map_map, ← pair_fst nx nx' a a' i, List.map_map, List.map_map]
    rfl
theorem pair_snd {S S' : Type} (nx : Nat → S → Bool → S) (nx' : Nat → S' → Bool → S') (a : S) (a' : S') : ∀ i, (stL (pairNx nx nx') (a, a') i).map Prod.snd = stL nx' a' i
  | 0 => rfl
  | i + 1 => by
    rw [stL, stL, List.map_append, List.map_map, List.map_map, ← pair_snd nx nx' a a' i, List.map_map, List.map_map]
    rfl
theorem pair_all {S S' : Type} (nx : Nat → S → Bool → S) (nx' : Nat → S' → Bool → S') (a : S) (a' : S') (R : Nat → S → S' → Prop) (h0 : R 0 a a') (hs : ∀ i s s' b, R i s s' → R (i + 1) (nx i s b) (nx' i s' b)) :
    ∀ i, ∀ x ∈ stL (pairNx nx nx') (a, a') i, R i x.1 x.2
  | 0, x, hx => by simp [stL] at hx; subst hx; exact h0
  | i + 1, x, hx => by
    rw [stL, List.mem_append, List.mem_map, List.mem_map] at hx
    rcases hx with ⟨y, hy, rfl⟩ | ⟨y, hy, rfl⟩ <;> exact hs i _ _ _ (pair_all nx nx' a a' R h0 hs i y hy)
theorem two_counts {S S' : Type} (nx : Nat → S → Bool → S) (nx' : Nat → S' → Bool → S') (a : S) (a' : S') (R : Nat → S → S' → Prop) (h0 : R 0 a a') (hs : ∀ i s s' b, R i s s' → R (i + 1) (nx i s b) (nx' i s' b))
    (n : Nat) (P : S → Bool) (P' : S' → Bool) (hP : ∀ s s', R n s s' → P s = P' s') : (stL nx a n).countP P = (stL nx' a' n).countP P' := by
  rw [← pair_fst nx nx' a a' n, ← pair_snd nx nx' a a' n, List.countP_map, List.countP_map]
  apply List.countP_congr
  intro x hx
  have := hP _ _ (pair_all nx nx' a a' R h0 hs n x hx)
  simp [Function.comp, this]
theorem stL_all {S : Type} (nx : Nat → S → Bool → S) (a : S) (R : Nat → S → Prop) (h0 : R 0 a) (hs : ∀ i s b, R i s → R (i + 1) (nx i s b)) : ∀ i, ∀ x ∈ stL nx a i, R i x
  | 0, x, hx => by simp [stL] at hx; subst hx; exact h0
  | i + 1, x, hx => by
    rw [stL, List.mem_append, List.mem_map, List.mem_map] at hx
    rcases hx with ⟨y, hy, rfl⟩ | ⟨y, hy, rfl⟩ <;> exact hs i _ _ (stL_all nx a R h0 hs i y hy)

def bitB (b : Bool) : UInt8 := if b then 49 else 48
/-- The program's state: the last bits and how often the pattern has occurred. -/
def plNx (pat : List UInt8) (_ : Nat) (p : List UInt8 × Nat) (b : Bool) : List UInt8 × Nat :=
  (if (p.1 ++ [bitB b]).length = pat.length then (p.1 ++ [bitB b]).drop 1 else p.1 ++ [bitB b], if p.1 ++ [bitB b] = pat then p.2 + 1 else p.2)
/-- The number of bits. -/
def numL : List UInt8 → Nat → Nat
  | [], a => a
  | x :: l, a => numL l (2 * a + (if x = 49 then 1 else 0))
theorem numL_snoc (l : List UInt8) (x : UInt8) : ∀ a, numL (l ++ [x]) a = 2 * numL l a + (if x = 49 then 1 else 0) := by
  induction l with
  | nil => intro a; rfl
  | cons y l ih => intro a; exact ih _
theorem numL_start (l : List UInt8) : ∀ a, numL l a = a * 2 ^ l.length + numL l 0 := by
  induction l with
  | nil => intro a; simp [numL]
  | cons y l ih =>
    intro a
    simp only [numL, List.length_cons]
    rw [ih, ih (2 * 0 + _), Nat.pow_succ, Nat.add_mul, Nat.add_mul]
    have : 2 * a * 2 ^ l.length = a * (2 ^ l.length * 2) := by rw [Nat.mul_comm 2 a, Nat.mul_assoc, Nat.mul_comm 2]
    omega
theorem numL_lt (l : List UInt8) : numL l 0 < 2 ^ l.length := by
  induction l with
  | nil => simp [numL]
  | cons y l ih =>
    simp only [numL, List.length_cons]
    rw [numL_start, Nat.pow_succ]
    split <;> omega
theorem numL_inj : ∀ (l m : List UInt8), (∀ x ∈ l, x = 48 ∨ x = 49) → (∀ x ∈ m, x = 48 ∨ x = 49) → l.length = m.length → numL l 0 = numL m 0 → l = m
  | [], [], _, _, _, _ => rfl
  | x :: l, y :: m, hl, hm, hn, he => by
    simp only [List.length_cons, Nat.add_right_cancel_iff] at hn
    simp only [numL] at he
    rw [numL_start l, numL_start m, hn] at he
    have h1 := numL_lt l
    have h2 := numL_lt m
    rw [hn] at h1
    have hx := hl x (by simp)
    have hy := hm y (by simp)
    have e : x = y ∧ numL l 0 = numL m 0 := by
      rcases hx with rfl | rfl <;> rcases hy with rfl | rfl <;> simp at he ⊢ <;> omega
    rw [e.1, numL_inj l m (fun z hz => hl z (by simp [hz])) (fun z hz => hm z (by simp [hz])) hn e.2]
/-- The reference's state: the number of the last bits and how often. -/
def prNx (L own : Nat) (i : Nat) (p : Nat × Nat) (b : Bool) : Nat × Nat :=
  ((2 * p.1 + (if b then 1 else 0)) % 2 ^ L, if L ≤ i + 1 ∧ (2 * p.1 + (if b then 1 else 0)) % 2 ^ L = own then p.2 + 1 else p.2)
def plR (L : Nat) (i : Nat) (s : List UInt8 × Nat) (t : Nat × Nat) : Prop :=
  s.1.length = min i (L - 1) ∧ (∀ x ∈ s.1, x = 48 ∨ x = 49) ∧ numL s.1 0 = t.1 % 2 ^ s.1.length ∧ s.2 = t.2
theorem dbl_mod (k c m : Nat) (hc : c ≤ 1) : (2 * k + c) % 2 ^ (m + 1) = 2 * (k % 2 ^ m) + c := by
  rw [Nat.pow_succ, Nat.mul_comm (2 ^ m) 2]
  rw [Nat.mod_mul]
  have h1 : (2 * k + c) / 2 = k := by omega
  have h2 : (2 * k + c) % 2 = c := by omega
  rw [h1, h2]; omega
theorem mod_mod_pow (k a b : Nat) (h : a ≤ b) : k % 2 ^ b % 2 ^ a = k % 2 ^ a := Nat.mod_mod_of_dvd k (Nat.pow_dvd_pow 2 h)
theorem plR_step (pat : List UInt8) (hp : ∀ x ∈ pat, x = 48 ∨ x = 49) (h1 : 1 ≤ pat.length) (i : Nat) (s : List UInt8 × Nat) (t : Nat × Nat) (b : Bool) (h : plR pat.length i s t) :
    plR pat.length (i + 1) (plNx pat i s b) (prNx pat.length (numL pat 0) i t b) := by
  obtain ⟨hl, hx, hn, he⟩ := h
  obtain ⟨l, m⟩ := s
  obtain ⟨k, m'⟩ := t
  simp only at hl hx hn he
  subst he
  have hb : (if bitB b = 49 then 1 else 0 : Nat) = (if b then 1 else 0) := by cases b <;> rfl
  have hc : (if b then 1 else 0 : Nat) ≤ 1 := by split <;> omega
  have hns : numL (l ++ [bitB b]) 0 = (2 * k + (if b then 1 else 0)) % 2 ^ (l.length + 1) := by
    rw [numL_snoc, hb, hn, dbl_mod _ _ _ hc]
  have hsl : (l ++ [bitB b]).length = l.length + 1 := by simp
  have hsx : ∀ x ∈ l ++ [bitB b], x = 48 ∨ x = 49 := by
    intro x hx'
    rcases List.mem_append.1 hx' with h | h
    · exact hx x h
    · simp only [List.mem_singleton] at h; subst h; cases b <;> simp [bitB]
  unfold plNx prNx
  simp only
  rw [hsl]
  generalize hcc : (if b then 1 else 0 : Nat) = c at *
  by_cases hf : l.length + 1 = pat.length
  · have hil : pat.length ≤ i + 1 := by omega
    rw [if_pos hf]
    have hiff : (l ++ [bitB b] = pat) ↔ (pat.length ≤ i + 1 ∧ (2 * k + c) % 2 ^ pat.length = numL pat 0) := by
      constructor
      · intro e
        refine ⟨hil, ?_⟩
        rw [← e, hns, hsl]
      · intro ⟨_, e⟩
        refine numL_inj _ _ hsx hp (by rw [hsl]; exact hf) ?_
        rw [hns, hf]; exact e
    refine ⟨?_, ?_, ?_, ?_⟩
    · rw [List.length_drop, hsl]; omega
    · intro x hx'; exact hsx x (List.mem_of_mem_drop hx')
    · cases hls : l ++ [bitB b] with
      | nil => simp at hls
      | cons y r =>
        rw [hls] at hns hsl
        simp only [List.length_cons, Nat.add_right_cancel_iff] at hsl
        simp only [List.drop_succ_cons, List.drop_zero]
        simp only [numL] at hns
        rw [numL_start] at hns
        have hr := numL_lt r
        have e2 : numL r 0 = ((2 * 0 + (if y = 49 then 1 else 0)) * 2 ^ r.length + numL r 0) % 2 ^ r.length := by
          rw [Nat.mul_comm, Nat.mul_add_mod, Nat.mod_eq_of_lt hr]
        rw [e2, hns, mod_mod_pow _ _ _ (by omega), mod_mod_pow _ _ _ (by omega)]
    · by_cases e : l ++ [bitB b] = pat
      · rw [if_pos e, if_pos (hiff.1 e)]
      · rw [if_neg e, if_neg (fun h => e (hiff.2 h))]
  · have hil : ¬ pat.length ≤ i + 1 := by omega
    have hne : l ++ [bitB b] ≠ pat := fun e => hf (by rw [← e, hsl])
    rw [if_neg hf, if_neg hne, if_neg (fun h : _ ∧ _ => hil h.1)]
    refine ⟨by simp only; rw [hsl]; omega, hsx, ?_, rfl⟩
    simp only
    rw [hns, hsl, mod_mod_pow _ _ _ (by omega)]
/-- Both count the places alike. -/
theorem pl_same (pat : List UInt8) (hp : ∀ x ∈ pat, x = 48 ∨ x = 49) (h1 : 1 ≤ pat.length) (n v : Nat) :
    (stL (plNx pat) ([], 0) n).countP (fun s => s.2 == v) = (stL (prNx pat.length (numL pat 0)) (0, 0) n).countP (fun s => s.2 == v) :=
  two_counts (plNx pat) (prNx pat.length (numL pat 0)) ([], 0) (0, 0) (plR pat.length) ⟨by simp, by simp, by simp [numL], rfl⟩ (fun i s t b h => plR_step pat hp h1 i s t b h) n _ _ (fun s t h => by rw [h.2.2.2])
theorem pl_valid (pat : List UInt8) (h1 : 1 ≤ pat.length) (i : Nat) : ∀ s ∈ stL (plNx pat) ([], 0) i, s.1.length < pat.length ∧ s.2 ≤ i ∧ ∀ x ∈ s.1, x = 48 ∨ x = 49 :=
  stL_all (plNx pat) ([], 0) (fun i s => s.1.length < pat.length ∧ s.2 ≤ i ∧ ∀ x ∈ s.1, x = 48 ∨ x = 49) ⟨h1, Nat.le_refl _, by simp⟩ (fun i s b ⟨a, c, d⟩ => by
    unfold plNx
    have hb : ∀ x ∈ s.1 ++ [bitB b], x = 48 ∨ x = 49 := by
      intro x hx
      rcases List.mem_append.1 hx with h | h
      · exact d x h
      · simp only [List.mem_singleton] at h; subst h; cases b <;> simp [bitB]
    refine ⟨?_, ?_, ?_⟩
    · simp only; split
      · simp only [List.length_drop, List.length_append, List.length_singleton] at *; omega
      · simp only [List.length_append, List.length_singleton] at *; omega
    · simp only; split <;> omega
    · simp only; split
      · intro x hx; exact hb x (List.mem_of_mem_drop hx)
      · exact hb) i
theorem pr_valid (L own : Nat) (i : Nat) : ∀ s ∈ stL (prNx L own) (0, 0) i, s.1 < 2 ^ L ∧ s.2 ≤ i :=
  stL_all (prNx L own) (0, 0) (fun i s => s.1 < 2 ^ L ∧ s.2 ≤ i) ⟨Nat.two_pow_pos _, Nat.le_refl _⟩ (fun i s b ⟨_, c⟩ => by
    unfold prNx
    refine ⟨Nat.mod_lt _ (Nat.two_pow_pos _), ?_⟩
    simp only
    generalize (2 * s.1 + (if b then 1 else 0)) % 2 ^ L = z
    split <;> omega) i
end Go.Proofs.YtlckamnadddlmaaGreatDoor

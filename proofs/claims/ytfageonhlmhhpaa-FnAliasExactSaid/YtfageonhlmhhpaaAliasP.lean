import Derived.Test.YtfageonhlmhhpaaBase
/- The alias table as plain mathematics: states, steps, what stays true, and that there is always a greater share. -/
namespace Go.Proofs.Ytfageonhlmhhpaa.Al
set_option linter.unusedVariables false

/-- Shares, cuts, other faces, and which columns are done. -/
structure St where
  sh : List Int
  ct : List Int
  ot : List Int
  dn : List Bool

def isLow (T : Int) (s : St) (i : Nat) : Bool := !s.dn.getD i false && decide (s.sh.getD i 0 < T)
def isHigh (T : Int) (s : St) (i : Nat) : Bool := !s.dn.getD i false && decide (T < s.sh.getD i 0)
def low (T : Int) (s : St) : Option Nat := (List.range s.sh.length).find? (isLow T s)
def high (T : Int) (s : St) : Option Nat := (List.range s.sh.length).find? (isHigh T s)
def next (T : Int) (s : St) (i j : Nat) : St :=
  ⟨s.sh.set j (s.sh.getD j 0 - (T - s.sh.getD i 0)), s.ct.set i (s.sh.getD i 0), s.ot.set i (j : Int), s.dn.set i true⟩
def run (T : Int) : Nat → St → St
  | 0, s => s
  | f + 1, s => match low T s with
    | none => s
    | some i => match high T s with
      | none => s
      | some j => run T f (next T s i j)

/-- How much a column that is not done has above the total. -/
def over (T : Int) (s : St) (i : Nat) : Int := if s.dn.getD i false then 0 else s.sh.getD i 0 - T
theorem over_dn {T : Int} {s : St} {i : Nat} (h : s.dn.getD i false = true) : over T s i = 0 := by unfold over; rw [h]; rfl
theorem over_nd {T : Int} {s : St} {i : Nat} (h : s.dn.getD i false = false) : over T s i = s.sh.getD i 0 - T := by unfold over; rw [h]; rfl
def sumTo (f : Nat → Int) : Nat → Int
  | 0 => 0
  | n + 1 => sumTo f n + f n
def left (s : St) : Nat := s.dn.countP (fun b => !b)

structure Inv (n : Nat) (T : Int) (s : St) : Prop where
  shl : s.sh.length = n
  ctl : s.ct.length = n
  otl : s.ot.length = n
  dnl : s.dn.length = n
  sh0 : ∀ i, i < n → 0 ≤ s.sh.getD i 0
  sh1 : ∀ i, i < n → s.sh.getD i 0 ≤ 16000000
  T1 : 1 ≤ T
  T2 : T ≤ 1000000
  bal : sumTo (over T s) n = 0
  ctd : ∀ i, i < n → s.dn.getD i false = true → 0 ≤ s.ct.getD i 0 ∧ s.ct.getD i 0 < T
  ctn : ∀ i, i < n → s.dn.getD i false = false → s.ct.getD i 0 = T
  otd : ∀ i, i < n → 0 ≤ s.ot.getD i 0 ∧ s.ot.getD i 0 < n
  otn : ∀ i, i < n → s.dn.getD i false = false → s.ot.getD i 0 = i

theorem sumTo_le (f : Nat → Int) (n : Nat) (h : ∀ i, i < n → f i ≤ 0) : sumTo f n ≤ 0 := by
  induction n with
  | zero => simp [sumTo]
  | succ n ih =>
    have h1 := ih (fun i hi => h i (by omega))
    have h2 := h n (by omega)
    simp only [sumTo]; omega

theorem sumTo_neg (f : Nat → Int) (n i : Nat) (h : ∀ i, i < n → f i ≤ 0) (hi : i < n) (hf : f i < 0) : sumTo f n < 0 := by
  induction n with
  | zero => omega
  | succ n ih =>
    simp only [sumTo]
    by_cases hin : i = n
    · subst hin
      have := sumTo_le f i (fun k hk => h k (by omega))
      omega
    · have := ih (fun k hk => h k (by omega)) (by omega)
      have := h n (by omega)
      omega

theorem sumTo_congr (f g : Nat → Int) (n : Nat) (h : ∀ i, i < n → f i = g i) : sumTo f n = sumTo g n := by
  induction n with
  | zero => rfl
  | succ n ih => simp only [sumTo]; rw [ih (fun i hi => h i (by omega)), h n (by omega)]

/-- Two places of a sum are changed. -/
theorem sumTo_upd (f g : Nat → Int) (n i : Nat) (hi : i < n) (h : ∀ k, k < n → k ≠ i → g k = f k) : sumTo g n = sumTo f n - f i + g i := by
  induction n with
  | zero => omega
  | succ n ih =>
    simp only [sumTo]
    by_cases hin : i = n
    · subst hin
      rw [sumTo_congr g f i (fun k hk => h k (by omega) (by omega))]
      omega
    · rw [ih (by omega) (fun k hk hne => h k (by omega) hne), h n (by omega) (by omega)]
      omega

theorem sumTo_add (f g : Nat → Int) (n : Nat) : sumTo (fun i => f i + g i) n = sumTo f n + sumTo g n := by
  induction n with
  | zero => rfl
  | succ n ih => simp only [sumTo, ih]; omega

theorem low_some {T : Int} {s : St} {i : Nat} (h : low T s = some i) : i < s.sh.length ∧ s.dn.getD i false = false ∧ s.sh.getD i 0 < T ∧ ∀ k, k < i → isLow T s k = false := by
  unfold low at h
  rw [List.find?_range_eq_some] at h
  obtain ⟨h1, h2, h3⟩ := h
  simp only [isLow, Bool.and_eq_true, Bool.not_eq_true', decide_eq_true_eq] at h1
  exact ⟨by simpa using h2, h1.1, h1.2, fun k hk => by simpa using h3 k hk⟩
theorem high_some {T : Int} {s : St} {i : Nat} (h : high T s = some i) : i < s.sh.length ∧ s.dn.getD i false = false ∧ T < s.sh.getD i 0 ∧ ∀ k, k < i → isHigh T s k = false := by
  unfold high at h
  rw [List.find?_range_eq_some] at h
  obtain ⟨h1, h2, h3⟩ := h
  simp only [isHigh, Bool.and_eq_true, Bool.not_eq_true', decide_eq_true_eq] at h1
  exact ⟨by simpa using h2, h1.1, h1.2, fun k hk => by simpa using h3 k hk⟩
theorem low_none {T : Int} {s : St} (h : low T s = none) : ∀ k, k < s.sh.length → isLow T s k = false := by
  unfold low at h
  rw [List.find?_eq_none] at h
  intro k hk
  have := h k (by simpa using hk)
  simpa using this
theorem high_none {T : Int} {s : St} (h : high T s = none) : ∀ k, k < s.sh.length → isHigh T s k = false := by
  unfold high at h
  rw [List.find?_eq_none] at h
  intro k hk
  have := h k (by simpa using hk)
  simpa using this
theorem low_of {T : Int} {s : St} {i : Nat} (hi : i < s.sh.length) (h : isLow T s i = true) (hk : ∀ k, k < i → isLow T s k = false) : low T s = some i := by
  unfold low
  rw [List.find?_range_eq_some]
  exact ⟨h, by simpa using hi, fun k hk' => by simp [hk k hk']⟩
theorem high_of {T : Int} {s : St} {i : Nat} (hi : i < s.sh.length) (h : isHigh T s i = true) (hk : ∀ k, k < i → isHigh T s k = false) : high T s = some i := by
  unfold high
  rw [List.find?_range_eq_some]
  exact ⟨h, by simpa using hi, fun k hk' => by simp [hk k hk']⟩
theorem low_eq_none {T : Int} {s : St} (h : ∀ k, k < s.sh.length → isLow T s k = false) : low T s = none := by
  unfold low
  rw [List.find?_eq_none]
  intro k hk
  simp [h k (by simpa using hk)]

theorem high_eq_none {T : Int} {s : St} (h : ∀ k, k < s.sh.length → isHigh T s k = false) : high T s = none := by
  unfold high
  rw [List.find?_eq_none]
  intro k hk
  simp [h k (by simpa using hk)]

theorem high_exists {n : Nat} {T : Int} {s : St} (h : Inv n T s) {i : Nat} (hl : low T s = some i) : ∃ j, high T s = some j := by
  cases hh : high T s with
  | some j => exact ⟨j, rfl⟩
  | none =>
    exfalso
    obtain ⟨h1, h2, h3, _⟩ := low_some hl
    have hn := high_none hh
    rw [h.shl] at h1 hn
    have := sumTo_neg (over T s) n i (fun k hk => by
      have := hn k hk
      cases hd : s.dn.getD k false with
      | true => rw [over_dn hd]; omega
      | false =>
        simp only [isHigh, hd, Bool.not_false, Bool.true_and, decide_eq_false_iff_not] at this
        rw [over_nd hd]; omega) h1 (by rw [over_nd h2]; omega)
    rw [h.bal] at this
    omega

theorem getD_set_ne {α : Type} (l : List α) (i k : Nat) (x d : α) (h : i ≠ k) : (l.set i x).getD k d = l.getD k d := by
  simp [List.getD, List.getElem?_set, h]
theorem getD_set_eq {α : Type} (l : List α) (i : Nat) (x d : α) (h : i < l.length) : (l.set i x).getD i d = x := by
  simp [List.getD, h]

theorem inv_next {n : Nat} {T : Int} {s : St} (h : Inv n T s) {i j : Nat} (hl : low T s = some i) (hh : high T s = some j) : Inv n T (next T s i j) := by
  obtain ⟨i1, i2, i3, _⟩ := low_some hl
  obtain ⟨j1, j2, j3, _⟩ := high_some hh
  rw [h.shl] at i1 j1
  have hij : i ≠ j := by rintro rfl; omega
  have hi0 := h.sh0 i i1
  have hj1 := h.sh1 j j1
  refine ⟨by simp [next, h.shl], by simp [next, h.ctl], by simp [next, h.otl], by simp [next, h.dnl], ?_, ?_, h.T1, h.T2, ?_, ?_, ?_, ?_, ?_⟩
  · intro k hk
    simp only [next]
    by_cases hjk : j = k
    · subst hjk; rw [getD_set_eq _ _ _ _ (by rw [h.shl]; exact j1)]; omega
    · rw [getD_set_ne _ _ _ _ _ hjk]; exact h.sh0 k hk
  · intro k hk
    simp only [next]
    by_cases hjk : j = k
    · subst hjk; rw [getD_set_eq _ _ _ _ (by rw [h.shl]; exact j1)]; omega
    · rw [getD_set_ne _ _ _ _ _ hjk]; exact h.sh1 k hk
  · have e1 : ∀ k, k ≠ i → k ≠ j → over T (next T s i j) k = over T s k := fun k hki hkj => by
      have hd : (next T s i j).dn.getD k false = s.dn.getD k false := getD_set_ne _ _ _ _ _ (Ne.symm hki)
      have hs : (next T s i j).sh.getD k 0 = s.sh.getD k 0 := getD_set_ne _ _ _ _ _ (Ne.symm hkj)
      cases hdk : s.dn.getD k false with
      | true => rw [over_dn hdk, over_dn (hd.trans hdk)]
      | false => rw [over_nd hdk, over_nd (hd.trans hdk), hs]
    have ei : over T (next T s i j) i = 0 := by
      exact over_dn (getD_set_eq _ _ _ _ (by rw [h.dnl]; exact i1))
    have ej : over T (next T s i j) j = over T s j - (T - s.sh.getD i 0) := by
      have hd : (next T s i j).dn.getD j false = false := (getD_set_ne _ _ _ _ _ hij).trans j2
      have hs : (next T s i j).sh.getD j 0 = s.sh.getD j 0 - (T - s.sh.getD i 0) := getD_set_eq _ _ _ _ (by rw [h.shl]; exact j1)
      rw [over_nd hd, over_nd j2, hs]; omega
    have oi : over T s i = s.sh.getD i 0 - T := over_nd i2
    let f := fun k => if k = i then 0 else over T s k
    have s1 : sumTo f n = sumTo (over T s) n - over T s i + 0 := by
      have := sumTo_upd (over T s) f n i i1 (fun k hk hne => by simp [f, hne])
      simpa [f] using this
    have s2 : sumTo (over T (next T s i j)) n = sumTo f n - f j + over T (next T s i j) j :=
      sumTo_upd f _ n j j1 (fun k hk hne => by
        simp only [f]
        by_cases hki : k = i
        · subst hki; simp [ei]
        · simp [hki, e1 k hki hne])
    have fj : f j = over T s j := by simp [f, Ne.symm hij]
    rw [s2, s1, fj, ej, h.bal, oi]
    omega
  · intro k hk
    simp only [next]
    by_cases hik : i = k
    · subst hik
      intro _
      rw [getD_set_eq _ _ _ _ (by rw [h.ctl]; exact i1)]
      exact ⟨hi0, i3⟩
    · rw [getD_set_ne _ _ _ _ _ hik, getD_set_ne _ _ _ _ _ hik]; exact h.ctd k hk
  · intro k hk
    simp only [next]
    by_cases hik : i = k
    · subst hik
      rw [getD_set_eq _ _ _ _ (by rw [h.dnl]; exact i1)]
      intro hc; cases hc
    · rw [getD_set_ne _ _ _ _ _ hik, getD_set_ne _ _ _ _ _ hik]; exact h.ctn k hk
  · intro k hk
    simp only [next]
    by_cases hik : i = k
    · subst hik
      rw [getD_set_eq _ _ _ _ (by rw [h.otl]; exact i1)]
      omega
    · rw [getD_set_ne _ _ _ _ _ hik]; exact h.otd k hk
  · intro k hk
    simp only [next]
    by_cases hik : i = k
    · subst hik
      rw [getD_set_eq _ _ _ _ (by rw [h.dnl]; exact i1)]
      intro hc; cases hc
    · rw [getD_set_ne _ _ _ _ _ hik, getD_set_ne _ _ _ _ _ hik]; exact h.otn k hk

theorem countP_set (l : List Bool) (i : Nat) (hi : i < l.length) (h : l.getD i false = false) : (l.set i true).countP (fun b => !b) + 1 = l.countP (fun b => !b) := by
  induction l generalizing i with
  | nil => simp at hi
  | cons b l ih =>
    cases i with
    | zero =>
      simp at h
      subst h
      simp
    | succ i =>
      simp only [List.length_cons, Nat.add_lt_add_iff_right] at hi
      have := ih i hi (by simpa using h)
      simp only [List.set_cons_succ, List.countP_cons]
      omega

theorem left_next {n : Nat} {T : Int} {s : St} (h : Inv n T s) {i j : Nat} (hl : low T s = some i) : left (next T s i j) + 1 = left s := by
  obtain ⟨i1, i2, _⟩ := low_some hl
  exact countP_set s.dn i (by rw [h.dnl, ← h.shl]; exact i1) i2

theorem run_low_none {T : Int} {s : St} (h : low T s = none) (f : Nat) : run T f s = s := by
  cases f with
  | zero => rfl
  | succ f => simp only [run, h]

theorem run_step {T : Int} {s : St} {i j : Nat} (hl : low T s = some i) (hh : high T s = some j) (f : Nat) : run T (f + 1) s = run T f (next T s i j) := by
  simp only [run, hl, hh]

theorem run_done {n : Nat} {T : Int} : ∀ (f : Nat) {s : St}, Inv n T s → left s ≤ f → low T (run T f s) = none ∧ Inv n T (run T f s)
  | 0, s, h, hf => by
    refine ⟨low_eq_none fun k hk => ?_, h⟩
    have hz : left s = 0 := by omega
    unfold left at hz
    rw [List.countP_eq_zero] at hz
    have hk' : k < s.dn.length := by rw [h.dnl, ← h.shl]; exact hk
    have h1 := hz s.dn[k] (List.getElem_mem hk')
    have e : s.dn.getD k false = true := by
      have e0 : s.dn.getD k false = s.dn[k] := by simp [List.getD, hk']
      rw [e0]; simpa using h1
    show (!s.dn.getD k false && _) = false
    rw [e]; rfl
  | f + 1, s, h, hf => by
    cases hl : low T s with
    | none => rw [run_low_none hl]; exact ⟨hl, h⟩
    | some i =>
      obtain ⟨j, hh⟩ := high_exists h hl
      rw [run_step hl hh]
      have := left_next (j := j) h hl
      exact run_done f (inv_next h hl hh) (by omega)

/-- The first state: each face has its weight as many times as there are faces. -/
def start (ws : List Int) (T : Int) : St :=
  ⟨ws.map (fun w => (ws.length : Int) * w), List.replicate ws.length T, (List.range ws.length).map (fun (i : Nat) => (i : Int)), List.replicate ws.length false⟩

theorem sumTo_getD (l : List Int) (c : Int) : sumTo (fun i => c * l.getD i 0) l.length = c * l.sum := by
  have key : ∀ k, k ≤ l.length → sumTo (fun i => c * l.getD i 0) k = c * (l.take k).sum := by
    intro k
    induction k with
    | zero => intro _; simp [sumTo]
    | succ k ih =>
      intro hk
      have e : l.take (k + 1) = l.take k ++ [l.getD k 0] := take_snoc l k (by omega)
      rw [e, List.sum_append]
      simp only [sumTo, ih (by omega), List.sum_singleton, Int.mul_add]
  rw [key l.length (Nat.le_refl _), List.take_length]

theorem sumTo_const (c : Int) (n : Nat) : sumTo (fun _ => c) n = n * c := by
  induction n with
  | zero => simp [sumTo]
  | succ n ih => simp only [sumTo, ih, Int.natCast_add, Int.add_mul]; omega

theorem sumTo_sub (f g : Nat → Int) (n : Nat) : sumTo (fun i => f i - g i) n = sumTo f n - sumTo g n := by
  induction n with
  | zero => rfl
  | succ n ih => simp only [sumTo, ih]; omega

theorem inv_start (ws : List Int) (T : Int) (hn : ws.length ≤ 16) (h0 : ∀ w ∈ ws, 0 ≤ w ∧ w ≤ 1000000) (hT : ws.sum = T) (h1 : 1 ≤ T) (h2 : T ≤ 1000000) : Inv ws.length T (start ws T) := by
  have hsh : ∀ i, i < ws.length → (start ws T).sh.getD i 0 = (ws.length : Int) * ws.getD i 0 := fun i hi => by
    simp [start, List.getD, hi]
  have hw : ∀ i, i < ws.length → 0 ≤ ws.getD i 0 ∧ ws.getD i 0 ≤ 1000000 := fun i hi => by
    rw [getD_eq _ _ hi]; exact h0 _ (List.getElem_mem hi)
  have hdn : ∀ i, (start ws T).dn.getD i false = false := fun i => by
    simp only [start, List.getD, List.getElem?_replicate]; split <;> rfl
  refine ⟨by simp [start], by simp [start], by simp [start], by simp [start], fun i hi => ?_, fun i hi => ?_, h1, h2, ?_, fun i hi hd => ?_, fun i hi _ => ?_, fun i hi => ?_, fun i hi _ => ?_⟩
  · rw [hsh i hi]; exact Int.mul_nonneg (by omega) (hw i hi).1
  · rw [hsh i hi]
    have := hw i hi
    have hm : (ws.length : Int) * ws.getD i 0 ≤ 16 * ws.getD i 0 := Int.mul_le_mul_of_nonneg_right (by omega) this.1
    omega
  · rw [sumTo_congr _ (fun i => (ws.length : Int) * ws.getD i 0 - T) ws.length (fun i hi => by rw [over_nd (hdn i), hsh i hi]), sumTo_sub, sumTo_getD, sumTo_const, hT]
    omega
  · rw [hdn i] at hd; cases hd
  · simp [start, List.getD, hi]
  · simp [start, List.getD, hi]
  · simp [start, List.getD, hi]

theorem left_start (ws : List Int) (T : Int) : left (start ws T) = ws.length := by
  unfold left start
  rw [List.countP_replicate]; rfl

end Go.Proofs.Ytfageonhlmhhpaa.Al

import Derived.Test.YtpineiocjaajnaaVecR
/- The shortest wave: plain facts. No condition. -/
namespace Go.Proofs.Ytpineiocjaajnaa
set_option linter.unusedVariables false

/-- What elements make with the powers of the factor, from a power on. -/
def wS (a m : Int) (k : Nat) : List Int → Int
  | [] => 0
  | x :: l => pwM a m (k + 1) * x + wS a m (k + 1) l
theorem wS_push (a m : Int) : ∀ (l : List Int) (k : Nat) (x : Int), wS a m k (l ++ [x]) = wS a m k l + pwM a m (k + l.length + 1) * x
  | [], k, x => by simp [wS]
  | y :: l, k, x => by
    simp only [List.cons_append, wS, wS_push a m l (k + 1) x, List.length_cons]
    rw [show k + 1 + l.length + 1 = k + (l.length + 1) + 1 by omega]; omega
theorem wS_neg (a m : Int) : ∀ (l : List Int) (k : Nat), wS a m k (l.map (- ·)) = - wS a m k l
  | [], k => rfl
  | y :: l, k => by simp only [List.map_cons, wS, wS_neg a m l (k + 1), Int.mul_neg]; omega
/-- A wave, of any sign. -/
structure IsWa (a m : Int) (D : Nat) (v : List Int) : Prop where
  len : v.length = D
  wv : ∃ s r, v = s :: r ∧ (s + wS a m 0 r) % m = 0
structure IsWv (a m : Int) (D : Nat) (v : List Int) : Prop where
  wa : IsWa a m D v
  pos : posL v = true
theorem IsWv.hl {a m : Int} {D : Nat} : ∀ v, IsWv a m D v → v.length = D := fun v h => h.wa.len
theorem IsWa.neg {a m : Int} {D : Nat} {v : List Int} (h : IsWa a m D v) : IsWa a m D (v.map (- ·)) := by
  obtain ⟨h1, s, r, rfl, h2⟩ := h
  refine ⟨by simpa using h1, -s, r.map (- ·), rfl, ?_⟩
  rw [wS_neg]
  have : -s + -wS a m 0 r = -(s + wS a m 0 r) := by omega
  rw [this]
  exact Int.emod_eq_zero_of_dvd (Int.dvd_neg.2 (Int.dvd_of_emod_eq_zero h2))
theorem IsWa.sgn {a m : Int} {D : Nat} {v : List Int} (h : IsWa a m D v) : IsWa a m D (sgnL v) := by unfold sgnL; split; exact h; exact h.neg
/-- The list that is kept behind an offer, if there is one. -/
def ofO (o : Option (List Int)) (v : List Int) : Option (List Int) := if posL v then (match o with | none => some v | some c => some (if btB v c then v else c)) else o
/-- One is no worse than another. -/
def leO (o2 o : Option (List Int)) : Prop := ∀ c, o = some c → ∃ c2, o2 = some c2 ∧ geB c2 c
def okO (P : List Int → Prop) (o : Option (List Int)) : Prop := ∀ c, o = some c → P c
/-- Every wave of a bound whose further elements begin with some is no better. -/
def seenO (P : List Int → Prop) (B : Int) (o : Option (List Int)) (b : List Int) : Prop := ∀ s t, P (s :: (b ++ t)) → sqL (s :: (b ++ t)) ≤ B → ∃ c, o = some c ∧ geB c (s :: (b ++ t))
theorem leO_refl (o : Option (List Int)) : leO o o := fun c h => ⟨c, h, geB_refl c⟩
theorem leO_trans {P : List Int → Prop} {D : Nat} {o o2 o3 : Option (List Int)} (hl : ∀ v, P v → v.length = D) (k : okO P o) (k2 : okO P o2) (k3 : okO P o3) (h : leO o3 o2) (h2 : leO o2 o) : leO o3 o := fun c hc => by
  obtain ⟨c2, e2, g2⟩ := h2 c hc
  obtain ⟨c3, e3, g3⟩ := h c2 e2
  exact ⟨c3, e3, geB_trans (by rw [hl _ (k3 _ e3), hl _ (k2 _ e2)]) (by rw [hl _ (k2 _ e2), hl _ (k _ hc)]) g3 g2⟩
theorem seenO.mono {P : List Int → Prop} {D : Nat} {B : Int} {o o2 : Option (List Int)} {b : List Int} (hl : ∀ v, P v → v.length = D) (k : okO P o) (k2 : okO P o2) (h : leO o2 o) (hs : seenO P B o b) : seenO P B o2 b := fun s t hp hb => by
  obtain ⟨c, e, g⟩ := hs s t hp hb
  obtain ⟨c2, e2, g2⟩ := h c e
  exact ⟨c2, e2, geB_trans (by rw [hl _ (k2 _ e2), hl _ (k _ e)]) (by rw [hl _ (k _ e), hl _ hp]) g2 g⟩
theorem ofO_le (o : Option (List Int)) (v : List Int) : leO (ofO o v) o := fun c hc => by
  subst hc
  unfold ofO
  cases posL v with
  | false => exact ⟨c, rfl, geB_refl c⟩
  | true =>
    cases hb : btB v c with
    | true => exact ⟨v, by simp [hb], geB_of_bt hb⟩
    | false => exact ⟨c, by simp [hb], geB_refl c⟩
theorem ofO_ge {o : Option (List Int)} {v : List Int} (h : posL v = true) : ∃ c, ofO o v = some c ∧ geB c v := by
  unfold ofO
  rw [h, if_pos rfl]
  cases o with
  | none => exact ⟨v, rfl, geB_refl v⟩
  | some c =>
    cases hb : btB v c with
    | true => exact ⟨v, by simp [hb], geB_refl v⟩
    | false => exact ⟨c, by simp [hb], hb⟩
theorem ofO_ok {P : List Int → Prop} {o : Option (List Int)} {v : List Int} (hk : okO P o) (hv : posL v = true → P v) : okO P (ofO o v) := fun c hc => by
  unfold ofO at hc
  cases hp : posL v with
  | false => rw [hp] at hc; exact hk c (by simpa using hc)
  | true =>
    rw [hp, if_pos rfl] at hc
    cases o with
    | none => simp at hc; subst hc; exact hv hp
    | some d =>
      simp at hc
      cases hb : btB v d with
      | true => rw [hb] at hc; simp at hc; subst hc; exact hv hp
      | false => rw [hb] at hc; simp at hc; subst hc; exact hk _ rfl
/-- Beyond a bound of squares nothing is left. -/
theorem seenO.far {P : List Int → Prop} {B : Int} {o : Option (List Int)} {b : List Int} (h : B < sqL b) : seenO P B o b := fun s t _ hb => by
  have := sqL_nonneg t
  have := sq_nn s
  simp only [sqL, sqL_append] at hb
  omega
theorem sq_ge {x bd : Int} (hb : 0 ≤ bd) (h : bd < x ∨ x < -bd) : bd * bd < x * x := sq_lt (by omega)
/-- All next elements of a bound. -/
theorem seenO.next {a m : Int} {D : Nat} {bd B : Int} {o : Option (List Int)} {b : List Int} (hb : b.length + 1 < D) (h0 : 0 ≤ bd) (hBb : B ≤ bd * bd) (h : ∀ x : Int, -bd ≤ x → x ≤ bd → seenO (IsWv a m D) B o (b ++ [x])) : seenO (IsWv a m D) B o b := fun s t hp hB => by
  cases t with
  | nil =>
    have := hp.wa.len
    simp at this; omega
  | cons x t =>
    have e : b ++ x :: t = b ++ [x] ++ t := by simp
    by_cases hx : -bd ≤ x ∧ x ≤ bd
    · rw [e] at hp hB ⊢
      exact h x hx.1 hx.2 s t hp hB
    · have h1 := sq_ge h0 (x := x) (by omega)
      have h2 := sqL_nonneg t
      have h3 := sqL_nonneg b
      have h4 := sq_nn s
      simp only [sqL, sqL_append] at hB
      omega
/-- The last step: three first elements. -/
theorem seenO.last {a m : Int} {D : Nat} {f B : Int} {o : Option (List Int)} {b : List Int} (hm : 0 < m) (hb : b.length + 1 = D) (hf : 0 ≤ f ∧ f < m) (hfm : (f + wS a m 0 b) % m = 0) (hBm : B ≤ m * m)
    (h : ∀ x, (x = f - m ∨ x = f ∨ x = f + m) → posL (x :: b) = true → sqL (x :: b) ≤ B → ∃ c, o = some c ∧ geB c (x :: b)) : seenO (IsWv a m D) B o b := fun s t hp hB => by
  have ht : t = [] := by
    have := hp.wa.len
    simp at this
    exact List.eq_nil_of_length_eq_zero (by omega)
  subst ht
  rw [List.append_nil] at hp hB ⊢
  obtain ⟨s', r, e, hw⟩ := hp.wa.wv
  simp only [List.cons.injEq] at e
  obtain ⟨rfl, rfl⟩ := e
  have hd : m ∣ s - f := by
    have e : s - f = (s + wS a m 0 b) - (f + wS a m 0 b) := by omega
    rw [e]; exact Int.dvd_sub (Int.dvd_of_emod_eq_zero hw) (Int.dvd_of_emod_eq_zero hfm)
  obtain ⟨q, hq⟩ := hd
  by_cases h0 : q = 0
  · subst h0; exact h s (by omega) hp.pos hB
  by_cases h1 : q = 1
  · subst h1; exact h s (by omega) hp.pos hB
  by_cases h2 : q = -1
  · subst h2; exact h s (by omega) hp.pos hB
  · have hs : m < s ∨ s < -m := by
      rcases (show 2 ≤ q ∨ q ≤ -2 by omega) with h3 | h3
      · have := Int.mul_le_mul_of_nonneg_left h3 (show 0 ≤ m by omega); omega
      · have := Int.mul_le_mul_of_nonneg_left h3 (show 0 ≤ m by omega); omega
    have h5 := sq_ge (by omega) hs
    have h6 := sqL_nonneg b
    simp only [sqL] at hB
    omega
/-- All waves of a bound are seen: the best of them is the best of all. -/
theorem best_bound {a m : Int} {D : Nat} {B : Int} {c : List Int} (hc : IsWv a m D c) (hb : sqL c ≤ B) (hs : seenO (IsWv a m D) B (some c) []) (hD : 0 < D) : BestOf (IsWv a m D) c := by
  refine ⟨hc, fun v hv => ?_⟩
  by_cases h : sqL v ≤ B
  · cases v with
    | nil => have := hv.wa.len; simp at this; omega
    | cons s t =>
      obtain ⟨c', e, g⟩ := hs s t hv h
      simp at e; subst e; exact g
  · exact btB_not (by omega)
/-- All elements of a list are from minus far to far. -/
def inBox (far : Int) (r : List Int) : Prop := ∀ x ∈ r, -far ≤ x ∧ x ≤ far
/-- The greatest absolute value, from a number on. -/
def grF (g : Int) : List Int → Int
  | [] => g
  | x :: l => grF (if g < (x.natAbs : Int) then (x.natAbs : Int) else g) l
theorem grF_ge : ∀ (l : List Int) (g : Int), g ≤ grF g l ∧ ∀ x ∈ l, (x.natAbs : Int) ≤ grF g l
  | [], g => ⟨Int.le_refl _, fun x h => by cases h⟩
  | y :: l, g => by
    have h := grF_ge l (if g < (y.natAbs : Int) then (y.natAbs : Int) else g)
    rw [grF]
    generalize grF _ l = G at h ⊢
    refine ⟨by split at h <;> omega, fun x hx => ?_⟩
    rcases List.mem_cons.1 hx with rfl | hx
    · have := h.1; split at this <;> omega
    · exact h.2 x hx
theorem grF_is : ∀ (l : List Int) (g : Int), grF g l = g ∨ ∃ x ∈ l, grF g l = (x.natAbs : Int)
  | [], g => Or.inl rfl
  | y :: l, g => by
    rw [grF]
    rcases grF_is l (if g < (y.natAbs : Int) then (y.natAbs : Int) else g) with h | ⟨x, hx, h⟩
    · rw [h]
      split
      · exact Or.inr ⟨y, List.mem_cons_self, rfl⟩
      · exact Or.inl rfl
    · exact Or.inr ⟨x, List.mem_cons_of_mem _ hx, h⟩
theorem sq_mem : ∀ {l : List Int} {x : Int}, x ∈ l → x * x ≤ sqL l
  | y :: l, x, h => by
    have h1 := sqL_nonneg l
    have h2 := sq_nn y
    simp only [sqL]
    rcases List.mem_cons.1 h with rfl | h
    · omega
    · have := sq_mem h; omega
theorem grF_sq (l : List Int) : grF 0 l * grF 0 l ≤ sqL l := by
  rcases grF_is l 0 with h | ⟨x, hx, h⟩
  · rw [h]; have := sqL_nonneg l; omega
  · rw [h, Int.natAbs_mul_self']; exact sq_mem hx
theorem grF_push : ∀ (l : List Int) (g x : Int), grF g (l ++ [x]) = if grF g l < (x.natAbs : Int) then (x.natAbs : Int) else grF g l
  | [], g, x => rfl
  | y :: l, g, x => by rw [List.cons_append, grF, grF_push l, grF]
/-- One step of the reference's count: the list behind a list. -/
theorem lx_next {far : Int} : ∀ (p : List Int) (x : Int) (k : Nat) (r : List Int), inBox far r → r.length = p.length + 1 + k → lxB r (p ++ (x + 1) :: List.replicate k (-far)) = true → lxB r (p ++ x :: List.replicate k far) = true ∨ r = p ++ x :: List.replicate k far
  | [], x, k, r, hb, hl, h => by
    cases r with
    | nil => simp at hl; omega
    | cons y r =>
      simp only [List.nil_append, lxB] at h ⊢
      by_cases e : y = x + 1
      · rw [if_pos e] at h
        exact absurd h (by rw [lx_low (fun z hz => (hb z (List.mem_cons_of_mem _ hz)).1) k]; simp)
      · rw [if_neg e] at h
        have h1 : y < x + 1 := by simpa using h
        by_cases e2 : y = x
        · subst e2
          rw [if_pos rfl]
          have hk : r.length = k := by simp at hl; omega
          rcases lx_high (fun z hz => (hb z (List.mem_cons_of_mem _ hz)).2) hk with h3 | h3
          · exact Or.inl h3
          · exact Or.inr (by rw [h3])
        · rw [if_neg e2]
          left; simp; omega
  | u :: p, x, k, r, hb, hl, h => by
    cases r with
    | nil => simp at hl; omega
    | cons y r =>
      simp only [List.cons_append, lxB] at h ⊢
      by_cases e : y = u
      · subst e
        rw [if_pos rfl] at h ⊢
        rcases lx_next p x k r (fun z hz => hb z (List.mem_cons_of_mem _ hz)) (by simp at hl; omega) h with h3 | h3
        · exact Or.inl h3
        · exact Or.inr (by rw [h3])
      · rw [if_neg e] at h ⊢
        exact Or.inl h
where
  lx_low {far : Int} : ∀ {r : List Int}, (∀ z ∈ r, -far ≤ z) → ∀ k, lxB r (List.replicate k (-far)) = false
    | [], _, k => by cases k <;> rfl
    | y :: r, h, 0 => rfl
    | y :: r, h, k + 1 => by
      have h1 := h y List.mem_cons_self
      rw [List.replicate_succ, lxB]
      split
      · exact lx_low (fun z hz => h z (List.mem_cons_of_mem _ hz)) k
      · simp; omega
  lx_high {far : Int} : ∀ {r : List Int} {k : Nat}, (∀ z ∈ r, z ≤ far) → r.length = k → lxB r (List.replicate k far) = true ∨ r = List.replicate k far
    | [], k, _, hk => by simp at hk; subst hk; exact Or.inr rfl
    | y :: r, 0, _, hk => by simp at hk
    | y :: r, k + 1, h, hk => by
      have h1 := h y List.mem_cons_self
      rw [List.replicate_succ, lxB]
      by_cases e : y = far
      · subst e
        rw [if_pos rfl]
        rcases lx_high (fun z hz => h z (List.mem_cons_of_mem _ hz)) (by simpa using hk) with h2 | h2
        · exact Or.inl h2
        · exact Or.inr (by rw [h2])
      · rw [if_neg e]
        left; simp; omega
/-- The nearest first elements of further ones, made positive, are waves. -/
theorem two_wave {a m z : Int} {D : Nat} {r : List Int} (hr : r.length + 1 = D) (h : z ∈ twoM (-wS a m 0 r) m) : IsWa a m D (z :: r) := by
  refine ⟨by simpa using hr, z, r, rfl, ?_⟩
  have := twoM_mod h
  have e : z + wS a m 0 r = z - -wS a m 0 r := by omega
  rw [e]; exact this
theorem two_seen {a m s : Int} {D : Nat} {c r : List Int} (hm : 0 < m) (hnz : 0 < sqL r) (hc : ∀ z ∈ twoM (-wS a m 0 r) m, geB c (sgnL (z :: r))) (hv : IsWv a m D (s :: r)) : geB c (s :: r) := by
  obtain ⟨s', r', e, hw⟩ := hv.wa.wv
  simp only [List.cons.injEq] at e
  obtain ⟨rfl, rfl⟩ := e
  have e : s - -wS a m 0 r = s + wS a m 0 r := by omega
  rcases twoM_best (n := -wS a m 0 r) hm (by rw [e]; exact hw) with h | h
  · have := hc s h
    rwa [sgnL_pos hv.pos] at this
  · have := geB_sq (hc _ (twoM_near _ _))
    rw [sgnL_sq] at this
    have h2 := sq_lt h
    exact btB_not (by simp only [sqL] at this ⊢; omega)
/-- The first wave. -/
theorem wS_zero (a m : Int) : ∀ (n k : Nat), wS a m k (List.replicate n 0) = 0
  | 0, k => rfl
  | n + 1, k => by rw [List.replicate_succ, wS, wS_zero a m n, Int.mul_zero]; rfl
theorem sqL_zero : ∀ n : Nat, sqL (List.replicate n 0) = 0
  | 0 => rfl
  | n + 1 => by rw [List.replicate_succ, sqL, sqL_zero n]; rfl
theorem wv_first {a m : Int} (hm : 0 < m) (n : Nat) : IsWv a m (n + 1) (m :: List.replicate n 0) := by
  refine ⟨⟨by simp, m, _, rfl, by rw [wS_zero]; simp⟩, ?_⟩
  simp only [posL]
  rw [if_neg (by omega)]
  simpa using hm
theorem sq_first (m : Int) (n : Nat) : sqL (m :: List.replicate n 0) = m * m := by simp only [sqL, sqL_zero]; omega
theorem rep_of_zero : ∀ {l : List Int}, (∀ x ∈ l, x.natAbs = 0) → l = List.replicate l.length 0
  | [], _ => rfl
  | x :: l, h => by
    have h1 := h x List.mem_cons_self
    have : x = 0 := by omega
    subst this
    rw [List.length_cons, List.replicate_succ, ← rep_of_zero (fun y hy => h y (List.mem_cons_of_mem _ hy))]
theorem wv_zero {a m : Int} {D : Nat} {v : List Int} (hm : 0 < m) (hv : IsWv a m D v) (h : ∃ s r, v = s :: r ∧ grF 0 r < 1) : m * m ≤ sqL v ∧ (sqL v = m * m → v = m :: List.replicate (D - 1) 0) := by
  obtain ⟨s, r, rfl, hg⟩ := h
  obtain ⟨s', r', e, hw⟩ := hv.wa.wv
  simp only [List.cons.injEq] at e
  obtain ⟨rfl, rfl⟩ := e
  have hl := hv.wa.len
  have hr : r = List.replicate r.length 0 := rep_of_zero fun x hx => by have := (grF_ge r 0).2 x hx; omega
  obtain ⟨n, hn⟩ : ∃ n, r.length = n := ⟨_, rfl⟩
  rw [hn] at hr
  subst hr
  rw [wS_zero, Int.add_zero] at hw
  have hp := hv.pos
  have hs : 0 < s := by
    simp only [posL] at hp
    by_cases e : s = 0
    · rw [if_pos e] at hp
      have := posL_not_zero _ hp
      simp [zerL] at this
    · rw [if_neg e] at hp; simpa using hp
  obtain ⟨q, rfl⟩ := Int.dvd_of_emod_eq_zero hw
  have hq : 0 < q := by
    rcases (show 0 < q ∨ q ≤ 0 by omega) with h | h
    · exact h
    · have := Int.mul_le_mul_of_nonneg_left h (show 0 ≤ m by omega); omega
  have hq1 : m * 1 ≤ m * q := Int.mul_le_mul_of_nonneg_left (by omega) (by omega)
  simp only [sqL, sqL_zero, Int.add_zero]
  have h1 := sq_mono (x := m) (y := m * q) (by omega) (by omega)
  refine ⟨h1, fun e => ?_⟩
  have : q = 1 := by
    rcases (show 1 < q ∨ q ≤ 1 by omega) with h | h
    · have h2 := Int.mul_le_mul_of_nonneg_left (show 2 ≤ q by omega) (show 0 ≤ m by omega)
      have := sq_lt (x := m) (y := m * q) (by omega)
      omega
    · omega
  subst this
  simp at hl
  rw [Int.mul_one, ← hl]; rfl
end Go.Proofs.Ytpineiocjaajnaa

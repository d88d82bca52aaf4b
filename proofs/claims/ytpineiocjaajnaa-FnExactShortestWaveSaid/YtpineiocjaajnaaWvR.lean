import Derived.Test.YtpineiocjaajnaaVecW
/- The reference's search for the shortest wave: plain facts. No condition. -/
namespace Go.Proofs.Ytpineiocjaajnaa
set_option linter.unusedVariables false

/-- The place of a list in the reference's count. -/
def rkL (far : Int) : List Int → Nat
  | [] => 0
  | x :: l => (x + far).toNat * (2 * far + 1).toNat ^ l.length + rkL far l
theorem rkL_low (far : Int) : ∀ k, rkL far (List.replicate k (-far)) = 0
  | 0 => rfl
  | k + 1 => by
    rw [List.replicate_succ, rkL, rkL_low far k, show (-far + far).toNat = 0 by omega]; omega
theorem rkL_high {far : Int} (h : 0 ≤ far) : ∀ k, rkL far (List.replicate k far) + 1 = (2 * far + 1).toNat ^ k
  | 0 => rfl
  | k + 1 => by
    have ih := rkL_high h k
    rw [List.replicate_succ, rkL, List.length_replicate, Nat.add_assoc, ih, Nat.pow_succ]
    have : (2 * far + 1).toNat = (far + far).toNat + 1 := by omega
    rw [this, Nat.mul_comm _ ((far + far).toNat + 1), Nat.add_mul, Nat.one_mul]
theorem rkL_step {far : Int} (h : 0 ≤ far) : ∀ (p : List Int) (x : Int) (k : Nat), -far ≤ x → rkL far (p ++ x :: List.replicate k far) + 1 = rkL far (p ++ (x + 1) :: List.replicate k (-far))
  | [], x, k, hx => by
    have h1 := rkL_high h k
    simp only [List.nil_append, rkL, rkL_low, List.length_replicate]
    rw [show (x + 1 + far).toNat = (x + far).toNat + 1 by omega, Nat.add_mul, Nat.one_mul]
    omega
  | y :: p, x, k, hx => by
    have ih := rkL_step h p x k hx
    simp only [List.cons_append, rkL]
    rw [← ih]
    simp only [List.length_append, List.length_cons, List.length_replicate]
    omega
theorem rkL_lt {far : Int} (h : 0 ≤ far) : ∀ (l : List Int), inBox far l → rkL far l + 1 ≤ (2 * far + 1).toNat ^ l.length
  | [], _ => by simp [rkL]
  | x :: l, hb => by
    have h1 := hb x List.mem_cons_self
    have ih := rkL_lt h l (fun z hz => hb z (List.mem_cons_of_mem _ hz))
    rw [rkL, List.length_cons, Nat.pow_succ]
    obtain ⟨B, hB⟩ : ∃ B, (2 * far + 1).toNat = B := ⟨_, rfl⟩
    rw [hB] at ih ⊢
    have h2 : (x + far).toNat + 1 ≤ B := by omega
    have h3 := Nat.mul_le_mul_right (B ^ l.length) h2
    rw [Nat.add_mul, Nat.one_mul] at h3
    rw [Nat.mul_comm (B ^ l.length) B]
    omega
/-- What a shell has seen ahead of a list. -/
structure ShK (a m : Int) (D : Nat) (far : Int) (c0 c xs : List Int) : Prop where
  len : xs.length + 1 = D
  box : inBox far xs
  kd0 : IsWv a m D c0
  kd : IsWv a m D c
  ge : geB c c0
  seen : ∀ r : List Int, r.length + 1 = D → inBox far r → grF 0 r = far → lxB r xs = true → ∀ s, IsWv a m D (s :: r) → geB c (s :: r)
theorem ShK.start {a m far : Int} {D n : Nat} {c0 : List Int} (hn : n + 1 = D) (h0 : 0 ≤ far) (hc : IsWv a m D c0) : ShK a m D far c0 c0 (List.replicate n (-far)) := by
  refine ⟨by simpa using hn, fun x hx => ?_, hc, hc, geB_refl _, fun r hr hb hg hl => ?_⟩
  · have := List.eq_of_mem_replicate hx; omega
  · rw [lx_next.lx_low (fun z hz => (hb z hz).1) n] at hl; cases hl
/-- A list has been dealt with. -/
def nowS (a m : Int) (D : Nat) (far : Int) (c xs : List Int) : Prop := grF 0 xs = far → ∀ s, IsWv a m D (s :: xs) → geB c (s :: xs)
theorem ShK.next {a m far : Int} {D : Nat} {c0 c c2 p : List Int} {x : Int} {k : Nat} (h : ShK a m D far c0 c (p ++ x :: List.replicate k far)) (hx : x ≠ far) (hk : IsWv a m D c2) (hg : geB c2 c) (hnow : nowS a m D far c2 (p ++ x :: List.replicate k far)) :
    ShK a m D far c0 c2 (p ++ (x + 1) :: List.replicate k (-far)) := by
  have hb := h.box
  have hxb := hb x (by simp)
  have hlc := h.kd.wa.len
  have hl2 := hk.wa.len
  refine ⟨by have := h.len; simp at this ⊢; omega, fun z hz => ?_, h.kd0, hk, geB_trans (by rw [hl2, hlc]) (by rw [hlc, h.kd0.wa.len]) hg h.ge, fun r hr hbr hgr hl s hs => ?_⟩
  · rcases List.mem_append.1 hz with hz | hz
    · exact hb z (by simp [hz])
    · rcases List.mem_cons.1 hz with rfl | hz
      · omega
      · have := List.eq_of_mem_replicate hz; omega
  · rcases lx_next p x k r hbr (by have := h.len; simp at this; omega) hl with h1 | h1
    · exact geB_trans (by rw [hl2, hlc]) (by rw [hlc, hs.wa.len]) hg (h.seen r hr hbr hgr h1 s hs)
    · subst h1
      exact hnow hgr s hs
theorem ShK.done {a m far : Int} {D n : Nat} {c0 c c2 : List Int} (h : ShK a m D far c0 c (List.replicate n far)) (hk : IsWv a m D c2) (hg : geB c2 c) (hnow : nowS a m D far c2 (List.replicate n far)) :
    geB c2 c0 ∧ ∀ v, IsWv a m D v → (∃ s r, v = s :: r ∧ grF 0 r = far) → geB c2 v := by
  have hlc := h.kd.wa.len
  have hl2 := hk.wa.len
  refine ⟨geB_trans (by rw [hl2, hlc]) (by rw [hlc, h.kd0.wa.len]) hg h.ge, fun v hv => ?_⟩
  rintro ⟨s, r, rfl, hgr⟩
  have hr : r.length + 1 = D := by have := hv.wa.len; simpa using this
  have hbr : inBox far r := fun z hz => by have := (grF_ge r 0).2 z hz; omega
  rcases lx_next.lx_high [] 0 [] (fun z hz => (hbr z hz).2) (show r.length = n by have := h.len; simp at this; omega) with h1 | h1
  · exact geB_trans (by rw [hl2, hlc]) (by rw [hlc, hv.wa.len]) hg (h.seen r hr hbr hgr h1 s hv)
  · subst h1
    exact hnow hgr s hv
/-- The nearest first elements that have been dealt with. -/
structure ShT (a m : Int) (D : Nat) (c0 c done xs : List Int) : Prop where
  kd : IsWv a m D c
  ge : geB c c0
  all : ∀ z ∈ done, geB c (sgnL (z :: xs))
theorem ShT.start {a m : Int} {D : Nat} {c xs : List Int} (h : IsWv a m D c) : ShT a m D c c [] xs := ⟨h, geB_refl _, fun z hz => by cases hz⟩
theorem far_nz {far : Int} {xs : List Int} (h1 : 1 ≤ far) (h : grF 0 xs = far) : 0 < sqL xs := by
  have h2 := grF_sq xs
  rw [h] at h2
  have := @sq_le 1 far (by omega)
  omega
theorem ShT.step {a m z : Int} {D : Nat} {c0 c done xs : List Int} (h : ShT a m D c0 c done xs) (hc0 : IsWv a m D c0) (hx : xs.length + 1 = D) (hz : z ∈ twoM (-wS a m 0 xs) m) (hnz : 0 < sqL xs) : ShT a m D c0 (bestR c (z :: xs)) (done ++ [z]) xs := by
  have hw := two_wave hx hz
  have hq : 0 < sqL (z :: xs) := by have := sq_nn z; simp only [sqL]; omega
  have hcn : c ≠ [] := fun e => by have := h.kd.wa.len; rw [e] at this; simp at this; omega
  have hb := bestT_ge (c := c) (l := z :: xs) hcn
  have hbt : bestT c (z :: xs) = bestR c (z :: xs) := by unfold bestT; rw [if_pos hq]
  rw [hbt] at hb
  have hsg : IsWv a m D (sgnL (z :: xs)) := ⟨hw.sgn, sgnL_ok (zerL_sq hq)⟩
  have hkd : IsWv a m D (bestR c (z :: xs)) := by
    unfold bestR
    rw [if_neg hcn]
    split
    · exact hsg
    · exact h.kd
  refine ⟨hkd, geB_trans (by rw [hkd.wa.len, h.kd.wa.len]) (by rw [h.kd.wa.len, hc0.wa.len]) hb.1 h.ge, fun y hy => ?_⟩
  rcases List.mem_append.1 hy with hy | hy
  · exact geB_trans (by rw [hkd.wa.len, h.kd.wa.len]) (by rw [h.kd.wa.len, sgnL_len]; simp; omega) hb.1 (h.all y hy)
  · rw [List.mem_singleton] at hy
    subst hy
    exact hb.2 hq
theorem ShT.now {a m far : Int} {D : Nat} {c0 c xs : List Int} (h : ShT a m D c0 c (twoM (-wS a m 0 xs) m) xs) (hm : 0 < m) (h1 : 1 ≤ far) : nowS a m D far c xs := fun hg s hs => two_seen hm (far_nz h1 hg) h.all hs
/-- What the search has seen: all waves whose further elements are less than a number. -/
def WvR (a m : Int) (D : Nat) (c : List Int) (x : Int) : Prop := IsWv a m D c ∧ sqL c ≤ m * m ∧ ∀ v, IsWv a m D v → (∃ s r, v = s :: r ∧ grF 0 r < x) → geB c v
theorem WvR.start {a m : Int} {n : Nat} (hm : 0 < m) : WvR a m (n + 1) (m :: List.replicate n 0) 1 := by
  refine ⟨wv_first hm n, by rw [sq_first]; exact Int.le_refl _, fun v hv h => ?_⟩
  obtain ⟨h1, h2⟩ := wv_zero hm hv h
  by_cases e : sqL v = m * m
  · rw [h2 e]; exact geB_refl _
  · exact btB_not (by rw [sq_first]; omega)
theorem WvR.next {a m x : Int} {D : Nat} {c c2 : List Int} (h : WvR a m D c x) (hk : IsWv a m D c2) (hg : geB c2 c) (hs : ∀ v, IsWv a m D v → (∃ s r, v = s :: r ∧ grF 0 r = x) → geB c2 v) : WvR a m D c2 (x + 1) := by
  refine ⟨hk, Int.le_trans (geB_sq hg) h.2.1, fun v hv => ?_⟩
  rintro ⟨s, r, rfl, hr⟩
  by_cases e : grF 0 r = x
  · exact hs _ hv ⟨s, r, rfl, e⟩
  · exact geB_trans (by rw [hk.wa.len, h.1.wa.len]) (by rw [h.1.wa.len, hv.wa.len]) hg (h.2.2 _ hv ⟨s, r, rfl, by omega⟩)
theorem WvR.best {a m x : Int} {D : Nat} {c : List Int} (hD : 0 < D) (h : WvR a m D c x) (h0 : 0 ≤ x) (hx : sqL c < x * x) : BestOf (IsWv a m D) c := by
  refine ⟨h.1, fun v hv => ?_⟩
  cases v with
  | nil => have := hv.wa.len; simp at this; omega
  | cons s r =>
    by_cases hr : grF 0 r < x
    · exact h.2.2 _ hv ⟨s, r, rfl, hr⟩
    · refine btB_not ?_
      have h1 := grF_sq r
      have h2 := sq_mono h0 (show x ≤ grF 0 r by omega)
      have h3 := sq_nn s
      simp only [sqL]
      omega
end Go.Proofs.Ytpineiocjaajnaa

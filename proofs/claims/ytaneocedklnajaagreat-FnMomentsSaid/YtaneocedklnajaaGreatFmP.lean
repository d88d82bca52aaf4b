import Derived.Test.YtaneocedklnajaaGreatVarX
import Derived.Test.YtaneocedklnajaaGreatJlP
import Derived.Test.YtaneocedklnajaaGreatBinX
/- Means and variances of sums of two small laws, and their bounds: plain facts. Condition: few values, chances among one small number. -/
namespace Go.Proofs.YtaneocedklnajaaGreat
open Go.RowKit
set_option linter.unusedVariables false

theorem sw_add (R S : Nat → Rat) : ∀ n, B30.sumW (fun k => R k + S k) n = B30.sumW R n + B30.sumW S n
  | 0 => (Rat.add_zero 0).symm
  | n + 1 => by
    show B30.sumW (fun k => R k + S k) n + (R n + S n) = (B30.sumW R n + R n) + (B30.sumW S n + S n)
    rw [sw_add R S n]; grind
theorem sw_mul (c : Rat) (R : Nat → Rat) : ∀ n, B30.sumW (fun k => c * R k) n = c * B30.sumW R n
  | 0 => (Rat.mul_zero c).symm
  | n + 1 => by
    show B30.sumW (fun k => c * R k) n + c * R n = c * (B30.sumW R n + R n)
    rw [sw_mul c R n]; grind
theorem sw_zero : ∀ n, B30.sumW (fun _ => (0 : Rat)) n = 0
  | 0 => rfl
  | n + 1 => by
    show B30.sumW (fun _ => (0 : Rat)) n + 0 = 0
    rw [sw_zero n]; exact Rat.add_zero 0
theorem sw_sumR (fs : List Int) : ∀ n, sumR fs n = B30.sumW (frR fs) n
  | 0 => rfl
  | n + 1 => by rw [sumR, B30.sumW, sw_sumR fs n]
theorem sw_none {x : Rat} {k0 : Nat} : ∀ {s}, s ≤ k0 → B30.sumW (fun k => if k = k0 then x else 0) s = 0
  | 0, _ => rfl
  | s + 1, h => by
    show B30.sumW (fun k => if k = k0 then x else 0) s + (if s = k0 then x else 0) = 0
    rw [sw_none (by omega), if_neg (by omega)]; exact Rat.add_zero 0
theorem sw_one {x : Rat} {k0 : Nat} : ∀ {s}, k0 < s → B30.sumW (fun k => if k = k0 then x else 0) s = x
  | 0, h => absurd h (Nat.not_lt_zero _)
  | s + 1, h => by
    show B30.sumW (fun k => if k = k0 then x else 0) s + (if s = k0 then x else 0) = x
    by_cases e : s = k0
    · rw [sw_none (by omega), if_pos e, Rat.zero_add]
    · rw [sw_one (by omega), if_neg e, Rat.add_zero]
theorem sw_append (R : Nat → Rat) (a : Nat) : ∀ b, B30.sumW R (a + b) = B30.sumW R a + B30.sumW (fun k => R (a + k)) b
  | 0 => (Rat.add_zero _).symm
  | b + 1 => by
    show B30.sumW R (a + b) + R (a + b) = B30.sumW R a + (B30.sumW (fun k => R (a + k)) b + R (a + b))
    rw [sw_append R a b]; grind
theorem sw_pairs (F : Nat → Nat → Rat) (n : Nat) : ∀ m, B30.sumW (fun t => F (t / n) (t % n)) (m * n) = B30.sumW (fun i => B30.sumW (F i) n) m
  | 0 => by rw [Nat.zero_mul]; rfl
  | m + 1 => by
    rw [Nat.succ_mul, sw_append, sw_pairs F n m]
    show _ = B30.sumW (fun i => B30.sumW (F i) n) m + B30.sumW (F m) n
    congr 1
    exact sumW_same fun k hk => by
      obtain ⟨e1, e2⟩ := pair_div (i := m) hk
      rw [e1, e2]
/-- Chances of pairs put together by their values. -/
theorem sw_group (F : Int → Rat) (pv : Nat → Int) (pr : Nat → Rat) (L : List Int) (hL : L.Pairwise (· < ·)) : ∀ N, (∀ t, t < N → pv t ∈ L) →
    B30.sumW (fun k => F (L.getD k 0) * gS pv pr (L.getD k 0) N) L.length = B30.sumW (fun t => F (pv t) * pr t) N
  | 0, _ => (sumW_same (S := fun _ => 0) (fun k _ => Rat.mul_zero _)).trans (sw_zero _)
  | N + 1, h => by
    obtain ⟨k0, hk0, e0⟩ := List.getElem_of_mem (h N (by omega))
    have hs : ∀ k, k < L.length → F (L.getD k 0) * gS pv pr (L.getD k 0) (N + 1) = F (L.getD k 0) * gS pv pr (L.getD k 0) N + (if k = k0 then F (pv N) * pr N else 0) := by
      intro k hk
      rw [gS]
      by_cases e : k = k0
      · subst e
        rw [if_pos rfl, getD_eq _ _ hk, e0, if_pos rfl]; grind
      · have hne : ¬ pv N = L.getD k 0 := by
          rw [getD_eq _ _ hk, ← e0]
          rw [List.pairwise_iff_getElem] at hL
          rcases Nat.lt_or_ge k k0 with h1 | h1
          · have := hL k k0 hk hk0 h1; omega
          · have := hL k0 k hk0 hk (by omega); omega
        rw [if_neg hne, if_neg e, Rat.add_zero]
    rw [sumW_same hs, sw_add, sw_group F pv pr L hL N (fun t ht => h t (by omega)), sw_one hk0]
    rfl
theorem sw_prod (A B : Nat → Rat) (n m : Nat) : B30.sumW (fun i => B30.sumW (fun k => A i * B k) n) m = B30.sumW A m * B30.sumW B n := by
  rw [sumW_same (S := fun i => B30.sumW B n * A i) (fun i _ => by rw [sw_mul]; exact Rat.mul_comm _ _), sw_mul]
  exact Rat.mul_comm _ _
theorem flR_at (R : Nat → Rat) : ∀ s k, k < s → frR (flR R s) k = R k
  | 0, k, h => absurd h (Nat.not_lt_zero _)
  | s + 1, k, h => by
    have hl := flR_len R s
    unfold frR frN frD
    rw [flR]
    simp only [List.getD_eq_getElem?_getD]
    rcases Nat.lt_or_ge k s with h1 | h1
    · rw [List.getElem?_append_left (by omega), List.getElem?_append_left (by omega)]
      have := flR_at R s k h1
      unfold frR frN frD at this
      simpa only [List.getD_eq_getElem?_getD] using this
    · obtain rfl : k = s := by omega
      rw [List.getElem?_append_right (by omega), List.getElem?_append_right (by omega), hl, Nat.sub_self, show k * 2 + 1 - k * 2 = 1 by omega]
      show mkRat (R k).num ((((R k).den : Nat) : Int)).toNat = R k
      rw [Int.toNat_natCast, mk_self]
/-- A sum over the law of sums is one over the pairs. -/
theorem join_sum (F : Int → Rat) (vs fs us gs : List Int) (m n : Nat) : B30.sumW (fun k => F ((jV vs us m n).getD k 0) * frR (jF vs fs us gs m n) k) (jV vs us m n).length = B30.sumW (fun i => B30.sumW (fun k => F (vs.getD i 0 + us.getD k 0) * (frR fs i * frR gs k)) n) m := by
  rw [← sw_pairs (fun i k => F (vs.getD i 0 + us.getD k 0) * (frR fs i * frR gs k))]
  have h := sw_group F (jpv vs us n) (jpr fs gs n) (jV vs us m n) (setT_sorted _ _) (m * n) (fun t ht => mem_setT.2 ⟨t, ht, rfl⟩)
  rw [show B30.sumW (fun t => F (jpv vs us n t) * jpr fs gs n t) (m * n) = B30.sumW (fun t => F (vs.getD (t / n) 0 + us.getD (t % n) 0) * (frR fs (t / n) * frR gs (t % n))) (m * n) from rfl] at h
  rw [← h]
  exact sumW_same fun k hk => by
    show F _ * frR (flR (jR vs fs us gs m n) (jV vs us m n).length) k = _
    rw [flR_at _ _ _ hk]; rfl
/-- The mean and the variance, with the values as rational numbers. -/
def meR (vs fs : List Int) (n : Nat) : Rat := B30.sumW (B30.mnR vs fs) n
theorem meR_eq (vs fs : List Int) (n : Nat) : meR vs fs n = B30.sumW (fun k => ((vs.getD k 0 : Int) : Rat) * frR fs k) n :=
  sumW_same fun k _ => by unfold B30.mnR; rw [mk_one]
theorem varR_eq (vs fs : List Int) (n : Nat) : varR vs fs n = B30.sumW (fun k => (((vs.getD k 0 : Int) : Rat) - meR vs fs n) * (((vs.getD k 0 : Int) : Rat) - meR vs fs n) * frR fs k) n :=
  sumW_same fun k _ => by
    unfold vrR meR
    rw [mk_one, show mkRat (-1) (Int.toNat 1) = -1 from by decide]
    grind
theorem me_zero (vs fs : List Int) (n : Nat) (h : sumR fs n = 1) : B30.sumW (fun k => (((vs.getD k 0 : Int) : Rat) - meR vs fs n) * frR fs k) n = 0 := by
  rw [sumW_same (S := fun k => ((vs.getD k 0 : Int) : Rat) * frR fs k + (-meR vs fs n) * frR fs k) (fun k _ => by grind), sw_add, sw_mul, ← meR_eq, ← sw_sumR, h]
  grind
theorem me_join {vs fs us gs : List Int} {m n : Nat} (h1 : sumR fs m = 1) (h2 : sumR gs n = 1) : meR (jV vs us m n) (jF vs fs us gs m n) (jV vs us m n).length = meR vs fs m + meR us gs n := by
  rw [meR_eq, join_sum (fun x => ((x : Int) : Rat))]
  rw [sumW_same (S := fun i => B30.sumW (fun k => (((vs.getD i 0 : Int) : Rat) * frR fs i) * frR gs k) n + B30.sumW (fun k => frR fs i * (((us.getD k 0 : Int) : Rat) * frR gs k)) n) (fun i _ => by
    rw [← sw_add]
    exact sumW_same fun k _ => by rw [Rat.intCast_add]; grind)]
  rw [sw_add, sw_prod, sw_prod, ← meR_eq, ← meR_eq, ← sw_sumR, ← sw_sumR, h1, h2]
  grind
theorem va_join {vs fs us gs : List Int} {m n : Nat} (h1 : sumR fs m = 1) (h2 : sumR gs n = 1) : varR (jV vs us m n) (jF vs fs us gs m n) (jV vs us m n).length = varR vs fs m + varR us gs n := by
  have z1 := me_zero vs fs m h1
  have z2 := me_zero us gs n h2
  rw [varR_eq, me_join h1 h2, varR_eq vs fs m, varR_eq us gs n]
  generalize meR vs fs m = M1 at *
  generalize meR us gs n = M2 at *
  rw [join_sum (fun x => (((x : Int) : Rat) - (M1 + M2)) * (((x : Int) : Rat) - (M1 + M2)))]
  rw [sumW_same (S := fun i => (B30.sumW (fun k => ((((vs.getD i 0 : Int) : Rat) - M1) * (((vs.getD i 0 : Int) : Rat) - M1) * frR fs i) * frR gs k) n + B30.sumW (fun k => (2 * ((((vs.getD i 0 : Int) : Rat) - M1) * frR fs i)) * ((((us.getD k 0 : Int) : Rat) - M2) * frR gs k)) n) + B30.sumW (fun k => frR fs i * ((((us.getD k 0 : Int) : Rat) - M2) * (((us.getD k 0 : Int) : Rat) - M2) * frR gs k)) n) (fun i _ => by
    rw [← sw_add, ← sw_add]
    exact sumW_same fun k _ => by rw [Rat.intCast_add]; grind)]
  rw [sw_add, sw_add, sw_prod, sw_prod, sw_prod, z2, ← sw_sumR, ← sw_sumR, h1, h2]
  grind
/-- A ratio whose denominator divides d and whose size is at most B. -/
def Rs (r : Rat) (d B : Nat) : Prop := ∃ a : Int, r = mkRat a d ∧ a.natAbs ≤ B * d
theorem Rs.add {r s : Rat} {d e B C : Nat} (hr : Rs r d B) (hs : Rs s e C) (hd : 0 < d) (he : 0 < e) : Rs (r + s) (d * e) (B + C) := by
  obtain ⟨a, rfl, ha⟩ := hr
  obtain ⟨b, rfl, hb⟩ := hs
  refine ⟨a * e + b * d, Rat.mkRat_add_mkRat _ _ (by omega) (by omega), ?_⟩
  have h1 := Int.natAbs_add_le (a * e) (b * d)
  rw [Int.natAbs_mul, Int.natAbs_mul, Int.natAbs_natCast, Int.natAbs_natCast] at h1
  have h2 := Nat.mul_le_mul_right e ha
  have h3 := Nat.mul_le_mul_right d hb
  have h4 : B * d * e + C * e * d = (B + C) * (d * e) := by
    rw [Nat.add_mul, Nat.mul_assoc, Nat.mul_assoc, Nat.mul_comm e d]
  omega
theorem Rs.fit {r : Rat} {d B : Nat} (hr : Rs r d B) (hd : 0 < d) (h1 : d ≤ 1000000000000000000) (h2 : B * d ≤ 1000000000000000000) : fitR r = true := by
  obtain ⟨a, rfl, ha⟩ := hr
  unfold fitR
  rw [mk_abs (by omega), mk_den (by omega)]
  have e1 := Nat.div_le_self a.natAbs (a.natAbs.gcd d)
  have e2 := Nat.div_le_self d (a.natAbs.gcd d)
  rw [decide_eq_true (by omega), decide_eq_true (by omega)]; rfl
theorem mk_plusQ {a b : Int} {d : Nat} (hd : d ≠ 0) : mkRat a d + mkRat b d = mkRat (a + b) d := by
  rw [Rat.mkRat_add_mkRat _ _ hd hd, ← Int.add_mul, Rat.mkRat_mul_right hd]
theorem rs_sum {fs : List Int} {D : Nat} {c : Nat → Nat} (hD : 0 < D) (G : Nat → Int) (B : Nat) : ∀ n, (∀ k, k < n → frR fs k = mkRat ((c k : Nat) : Int) D) → (∀ k, k < n → (G k).natAbs ≤ B) →
    ∃ a : Int, B30.sumW (fun k => ((G k : Int) : Rat) * frR fs k) n = mkRat a D ∧ a.natAbs ≤ B * sum0 c n
  | 0, _, _ => ⟨0, (Rat.zero_mkRat D).symm, by simp⟩
  | n + 1, hc, hG => by
    obtain ⟨a, e, h⟩ := rs_sum hD G B n (fun k hk => hc k (by omega)) (fun k hk => hG k (by omega))
    refine ⟨a + G n * ((c n : Nat) : Int), ?_, ?_⟩
    · show B30.sumW (fun k => ((G k : Int) : Rat) * frR fs k) n + ((G n : Int) : Rat) * frR fs n = _
      rw [e, hc n (by omega), ← mk_one, Rat.mkRat_mul_mkRat, Nat.one_mul, mk_plusQ (by omega)]
    · have h1 := Int.natAbs_add_le a (G n * ((c n : Nat) : Int))
      rw [Int.natAbs_mul, Int.natAbs_natCast] at h1
      have h2 := Nat.mul_le_mul_right (c n) (hG n (by omega))
      rw [sum0, Nat.mul_add]
      omega
theorem rs_all {fs : List Int} {D : Nat} {c : Nat → Nat} (hD : 0 < D) : ∀ n, (∀ k, k < n → frR fs k = mkRat ((c k : Nat) : Int) D) → sumR fs n = mkRat ((sum0 c n : Nat) : Int) D
  | 0, _ => (Rat.zero_mkRat D).symm
  | n + 1, hc => by
    rw [sumR, rs_all hD n (fun k hk => hc k (by omega)), hc n (by omega), mk_plusQ (by omega), sum0, Int.natCast_add]
/-- A law of few values, its chances all among one small number. -/
structure SmQ (vs fs : List Int) (n : Nat) : Prop where
  q : LawQ vs fs n
  ct : ∃ (D : Nat) (c : Nat → Nat), 0 < D ∧ D ≤ 4096 ∧ ∀ k, k < n → frR fs k = mkRat ((c k : Nat) : Int) D
  sm : ∀ k, k < n → -24 ≤ vs.getD k 0 ∧ vs.getD k 0 ≤ 24
theorem sm_rs {vs fs : List Int} {n : Nat} (h : SmQ vs fs n) : ∃ D, 0 < D ∧ D ≤ 4096 ∧ Rs (meR vs fs n) D 24 ∧ Rs (varR vs fs n) (D * D) 1152 := by
  obtain ⟨D, c, hD, hD2, hc⟩ := h.ct
  have hone := h.q.one
  rw [rs_all hD n hc] at hone
  have hS : sum0 c n = D := by
    have h1 : mkRat ((sum0 c n : Nat) : Int) D = mkRat 1 1 := hone
    rw [Rat.mkRat_eq_iff (by omega) (by omega)] at h1
    omega
  obtain ⟨a, ea, ha⟩ := rs_sum (fs := fs) (c := c) hD (fun k => vs.getD k 0) 24 n hc (fun k hk => by have := h.sm k hk; omega)
  obtain ⟨b, eb, hb⟩ := rs_sum (fs := fs) (c := c) hD (fun k => vs.getD k 0 * vs.getD k 0) 576 n hc (fun k hk => by
    have := h.sm k hk
    rw [Int.natAbs_mul]
    exact Nat.mul_le_mul (show _ ≤ 24 by omega) (show _ ≤ 24 by omega))
  rw [hS] at ha hb
  have hM : meR vs fs n = mkRat a D := by rw [meR_eq]; exact ea
  refine ⟨D, hD, hD2, ⟨a, hM, ha⟩, ⟨b * D - a * a, ?_, ?_⟩⟩
  · rw [varR_eq]
    have e2 : B30.sumW (fun k => (((vs.getD k 0 : Int) : Rat) - meR vs fs n) * (((vs.getD k 0 : Int) : Rat) - meR vs fs n) * frR fs k) n = mkRat b D - mkRat a D * mkRat a D := by
      rw [sumW_same (S := fun k => (((vs.getD k 0 * vs.getD k 0 : Int) : Rat) * frR fs k + (-2 * meR vs fs n) * (((vs.getD k 0 : Int) : Rat) * frR fs k)) + (meR vs fs n * meR vs fs n) * frR fs k) (fun k _ => by rw [Rat.intCast_mul]; grind)]
      rw [sw_add, sw_add, sw_mul, sw_mul, eb, ← meR_eq, ← sw_sumR, h.q.one, hM]
      grind
    rw [e2, Rat.mkRat_mul_mkRat, show mkRat b D = mkRat (b * D) (D * D) from (Rat.mkRat_mul_right (by omega)).symm, Rat.sub_eq_add_neg, Rat.neg_mkRat, mk_plusQ (Nat.mul_ne_zero (by omega) (by omega))]
    rfl
  · have h1 := Int.natAbs_add_le (b * D) (-(a * a))
    rw [Int.natAbs_neg, Int.natAbs_mul, Int.natAbs_mul, Int.natAbs_natCast] at h1
    have h2 := Nat.mul_le_mul_right D hb
    have h3 := Nat.mul_le_mul ha ha
    have h4 : 24 * D * (24 * D) = 576 * (D * D) := by rw [Nat.mul_mul_mul_comm]
    have h5 : 576 * D * D = 576 * (D * D) := Nat.mul_assoc _ _ _
    rw [Int.sub_eq_add_neg]
    omega
theorem sm_fits {vs fs us gs : List Int} {m n : Nat} (h1 : SmQ vs fs m) (h2 : SmQ us gs n) : fitR (meR vs fs m) = true ∧ fitR (varR vs fs m) = true ∧ fitR (meR us gs n) = true ∧ fitR (varR us gs n) = true ∧ fitR (meR vs fs m + meR us gs n) = true ∧ fitR (varR vs fs m + varR us gs n) = true := by
  obtain ⟨D, a0, a1, a2, a3⟩ := sm_rs h1
  obtain ⟨E, b0, b1, b2, b3⟩ := sm_rs h2
  have d2 : D * D ≤ 4096 * 4096 := Nat.mul_le_mul a1 a1
  have e2 : E * E ≤ 4096 * 4096 := Nat.mul_le_mul b1 b1
  have de : D * E ≤ 4096 * 4096 := Nat.mul_le_mul a1 b1
  have de2 : D * D * (E * E) ≤ 4096 * 4096 * (4096 * 4096) := Nat.mul_le_mul d2 e2
  have p1 : 0 < D * D := Nat.mul_pos a0 a0
  have p2 : 0 < E * E := Nat.mul_pos b0 b0
  have p3 : 0 < D * E := Nat.mul_pos a0 b0
  have p4 : 0 < D * D * (E * E) := Nat.mul_pos p1 p2
  exact ⟨a2.fit a0 (by omega) (by omega), a3.fit p1 (by omega) (by omega), b2.fit b0 (by omega) (by omega), b3.fit p2 (by omega) (by omega), (a2.add b2 a0 b0).fit p3 (by omega) (by omega), (a3.add b3 p1 p2).fit p4 (by omega) (by omega)⟩
end Go.Proofs.YtaneocedklnajaaGreat

import Derived.Test.YtaneocedklnajaaGreatFmP
import Derived.Test.YtaneocedklnajaaGreatLawG
import Derived.Test.YtaneocedklnajaaGreatOnesX
import Derived.Test.YtaneocedklnajaaGreatLevX
import Derived.Test.YtaneocedklnajaaGreatTail
/- Small laws: laws of counts and of weights are; their tails and levels: plain facts. Condition: few values, chances among one small number. -/
namespace Go.Proofs.YtaneocedklnajaaGreat
open Go.RowKit
set_option linter.unusedVariables false

theorem sm_counts {first : Int} {cs : List Int} {all m : Nat} (ha : 0 < all) (ha2 : all ≤ 4096) (h : ∀ i, i < m → 0 ≤ cs.getD i 0) (hs : psum cs m = (all : Int)) (hm : m ≤ 20) (hf : 0 ≤ first ∧ first ≤ 1) :
    SmQ (lvT first cs m) (lfT cs all m) (lvT first cs m).length := by
  have q := lawQ_counts (first := first) ha (by omega) h hs (by omega) (by omega)
  have c := ctQ first cs all ha m h
  refine ⟨q, ?_, fun k hk => by have := c.val k hk; omega⟩
  obtain ⟨f, hf⟩ := Classical.axiomOfChoice (r := fun k (c : Nat) => k < (lvT first cs m).length → frR (lfT cs all m) k = mkRat (c : Int) all) (fun k => by
    by_cases hk : k < (lvT first cs m).length
    · obtain ⟨i, a, b, _, d, e⟩ := c.fr k hk
      refine ⟨(cs.getD i 0).toNat, fun _ => ?_⟩
      unfold frR
      rw [d, e, Int.toNat_natCast, mk_self, Int.toNat_of_nonneg (by omega)]
    · exact ⟨0, fun h => absurd h hk⟩)
  exact ⟨all, f, ha, ha2, hf⟩
theorem fm_ones : ((List.range 13).all fun n => decide (psum (binR n (n + 1)) (n + 1) = ((2 ^ n : Nat) : Int))) = true := by kernel_rfl
theorem fm_runs : ((List.range 12).all fun n => decide (psum (runR (n + 1) (n + 1)) (n + 1) = ((2 ^ (n + 1) : Nat) : Int))) = true := by kernel_rfl
theorem pow_12 {n : Nat} (h : n ≤ 12) : 0 < 2 ^ n ∧ 2 ^ n ≤ 4096 := ⟨Nat.two_pow_pos n, Nat.pow_le_pow_right (show 0 < 2 by omega) h⟩
theorem sm_ones {n : Nat} (hn : n ≤ 12) : SmQ (lvT 0 (binR n (n + 1)) (n + 1)) (lfT (binR n (n + 1)) (2 ^ n) (n + 1)) (lvT 0 (binR n (n + 1)) (n + 1)).length :=
  sm_counts (pow_12 hn).1 (pow_12 hn).2 (fun i hi => by rw [binR_at hi]; omega) (by have := allB_at fm_ones (show n < 13 by omega); simpa using this) (by omega) (by omega)
theorem sm_runs {n : Nat} (hn : n ≤ 12) (h1 : 1 ≤ n) : SmQ (lvT 1 (runR n n) n) (lfT (runR n n) (2 ^ n) n) (lvT 1 (runR n n) n).length :=
  sm_counts (pow_12 hn).1 (pow_12 hn).2 (fun i hi => by rw [runR_at hi]; omega) (by
    have := allB_at fm_runs (show n - 1 < 12 by omega)
    rw [show n - 1 + 1 = n by omega] at this
    simpa using this) (by omega) (by omega)
theorem flR_nd (R : Nat → Rat) : ∀ s k, k < s → frN (flR R s) k = (R k).num ∧ frD (flR R s) k = (((R k).den : Nat) : Int)
  | 0, k, h => absurd h (Nat.not_lt_zero _)
  | s + 1, k, h => by
    rw [flR]
    rcases Nat.lt_or_ge k s with h1 | h1
    · rw [frN_old (flR_len R s) h1, frD_old (flR_len R s) h1]; exact flR_nd R s k h1
    · obtain rfl : k = s := by omega
      rw [frN_new (flR_len R k), frD_new (flR_len R k)]
      exact ⟨rfl, rfl⟩
theorem sumR_fl (ws : List Int) (all k : Nat) (ha : 0 < all) : ∀ m, m ≤ k → sumR (flR (fun i => mkRat (ws.getD i 0) all) k) m = mkRat (psum ws m) all
  | 0, _ => (Rat.zero_mkRat all).symm
  | m + 1, h => by rw [sumR, sumR_fl ws all k ha m (by omega), flR_at _ _ _ (by omega), mk_plus (by omega)]; rfl
theorem mk_all {a : Nat} (ha : 0 < a) : mkRat (a : Int) a = 1 := by
  have := Rat.mkRat_mul_right (n := 1) (d := 1) (a := a) (by omega)
  rw [Int.one_mul, Nat.one_mul] at this
  rw [this]; rfl
theorem sm_weights {vs ws : List Int} {k all : Nat} (hk : 1 ≤ k ∧ k ≤ 64) (hw : ∀ i, i < k → 1 ≤ ws.getD i 0) (hs : psum ws k = (all : Int)) (ha : 0 < all) (ha2 : all ≤ 4096) (hr : ∀ i, i < k → -24 ≤ vs.getD i 0 ∧ vs.getD i 0 ≤ 24) (hinc : ∀ i, i + 1 < k → vs.getD i 0 < vs.getD (i + 1) 0) :
    SmQ vs (flR (fun i => mkRat (ws.getD i 0) all) k) k := by
  have hp := psum_mono (cs := ws) (m := k) (fun i hi => by have := hw i hi; omega)
  have hle : ∀ i, i < k → ws.getD i 0 ≤ (all : Int) := fun i hi => by
    have h1 := hp i (by omega)
    have h2 := hp (i + 1) (by omega)
    rw [psum] at h2; omega
  have hfit : ∀ i, i < k → fitR (mkRat (ws.getD i 0) all) = true := fun i hi => mk_fit ha (by have := hw i hi; omega) (by have := hle i hi; omega) (by omega)
  refine ⟨⟨hk.1, hk.2, fun i hi => by have := hr i hi; omega, hinc, fun i hi => ?_, fun i hi => ?_, fun m hm => ?_, ?_⟩, ⟨all, fun i => (ws.getD i 0).toNat, ha, ha2, fun i hi => ?_⟩, hr⟩
  · obtain ⟨e1, e2⟩ := flR_nd (fun i => mkRat (ws.getD i 0) all) k i hi
    rw [e1, e2]; exact fit_vF (hfit i hi)
  · obtain ⟨e1, e2⟩ := flR_nd (fun i => mkRat (ws.getD i 0) all) k i hi
    rw [e1]; exact mk_numpos ha (by have := hw i hi; omega)
  · rw [sumR_fl ws all k ha m hm]
    have := hp m hm
    exact mk_fit ha (by omega) (by omega) (by omega)
  · rw [sumR_fl ws all k ha k (Nat.le_refl _), hs, mk_all ha]
  · rw [flR_at _ _ _ hi, Int.toNat_of_nonneg (by have := hw i hi; omega)]
/-! Tails and levels. -/
theorem pick_full {fs : List Int} {q : Nat → Bool} {n : Nat} (h : ∀ k, k < n → q k = true) : pickR fs q n = sumR fs n := by
  have := pick_split (fs := fs) (q := q) (j := 0) (m := n) (Nat.zero_le _) (fun k hk => absurd hk (Nat.not_lt_zero _)) (fun k _ hk => h k hk)
  rw [← this]
  exact (Rat.zero_add _).symm
theorem LawQ.mono_le {vs fs : List Int} {n : Nat} (q : LawQ vs fs n) {j k : Nat} (hj : j ≤ k) (hk : k < n) : vs.getD j 0 ≤ vs.getD k 0 := by
  rcases Nat.lt_or_eq_of_le hj with h | h
  · exact Int.le_of_lt (q.mono j k h hk)
  · subst h; exact Int.le_refl _
theorem tl_first {vs fs : List Int} {n : Nat} (hl : vs.length = n) (q : LawQ vs fs n) : tlV vs fs n n (vs.getD 0 0) = .tuple #[.agg #[.int .i64 1, .int .i64 1], .bool true] := by
  unfold tlV
  rw [lawOk_of hl q, if_pos rfl, pick_full (q := tlQ vs (vs.getD 0 0)) (fun k hk => decide_eq_true (q.mono_le (Nat.zero_le _) hk)), q.one, fracV_yes (by decide)]
  rfl
theorem tl_last {vs fs : List Int} {n : Nat} (hl : vs.length = n) (q : LawQ vs fs n) : tlV vs fs n n (vs.getD (n - 1) 0 + 1) = .tuple #[.agg #[.int .i64 0, .int .i64 1], .bool true] := by
  unfold tlV
  rw [lawOk_of hl q, if_pos rfl, pick_none (q := tlQ vs (vs.getD (n - 1) 0 + 1)) (fun k hk => decide_eq_false (by have := q.mono_le (show k ≤ n - 1 by omega) (by omega); omega)), fracV_yes (by decide)]
  rfl
theorem ch_at {vs fs : List Int} {n i : Nat} (q : LawQ vs fs n) (hi : i < n) : chP vs fs n (vs.getD i 0) = (frN fs i, frD fs i) :=
  chP_first hi rfl fun j hj => by
    rw [beq_eq_false_iff_ne]
    have := q.mono j i hj hi
    omega
theorem frR_pos {vs fs : List Int} {n : Nat} (q : LawQ vs fs n) {k : Nat} (hk : k < n) : 0 ≤ frR fs k := by
  rw [← Rat.num_nonneg]
  unfold frR
  rw [(vF_parts (q.ok k hk)).1]
  exact Int.le_of_lt (q.pos k hk)
theorem pick_bnd {fs : List Int} {p : Nat → Bool} : ∀ n, (∀ k, k < n → 0 ≤ frR fs k) → 0 ≤ pickR fs p n ∧ pickR fs p n ≤ sumR fs n ∧ ∀ i, i < n → p i = true → frR fs i ≤ pickR fs p n
  | 0, _ => ⟨Rat.le_refl, Rat.le_refl, fun i hi => absurd hi (Nat.not_lt_zero _)⟩
  | n + 1, h => by
    obtain ⟨a, b, c⟩ := pick_bnd (p := p) n (fun k hk => h k (by omega))
    have hn := h n (by omega)
    rw [pickR, sumR]
    by_cases e : p n = true
    · rw [if_pos e]
      refine ⟨by grind, by grind, fun i hi hp => ?_⟩
      rcases Nat.lt_or_ge i n with h1 | h1
      · have := c i h1 hp; grind
      · obtain rfl : i = n := by omega
        grind
    · rw [if_neg e]
      refine ⟨a, by grind, fun i hi hp => ?_⟩
      rcases Nat.lt_or_ge i n with h1 | h1
      · exact c i h1 hp
      · obtain rfl : i = n := by omega
        exact absurd hp e
theorem pick_w {fs : List Int} {p : Nat → Bool} : ∀ n, pickR fs p n = B30.sumW (fun k => (((if p k then 1 else 0 : Int) : Int) : Rat) * frR fs k) n
  | 0 => rfl
  | n + 1 => by
    rw [pickR, B30.sumW, pick_w n]
    cases p n with
    | true => simp
    | false => simp only [Bool.false_eq_true, if_false]; rw [Rat.intCast_zero, Rat.zero_mul, Rat.add_zero]
theorem pick_fit {vs fs : List Int} {n : Nat} (h : SmQ vs fs n) (p : Nat → Bool) : fitR (pickR fs p n) = true := by
  obtain ⟨D, c, hD, hD2, hc⟩ := h.ct
  have hone := h.q.one
  rw [rs_all hD n hc] at hone
  have hS : sum0 c n = D := by
    have h1 : mkRat ((sum0 c n : Nat) : Int) D = mkRat 1 1 := hone
    rw [Rat.mkRat_eq_iff (by omega) (by omega)] at h1
    omega
  obtain ⟨a, ea, hb⟩ := rs_sum (fs := fs) (c := c) hD (fun k => (if p k then 1 else 0 : Int)) 1 n hc (fun k hk => by split <;> decide)
  rw [hS] at hb
  rw [pick_w]
  exact Rs.fit ⟨a, ea, hb⟩ hD (by omega) (by omega)
/-- The level of a value of a small law: what the law FnMoments asks. -/
theorem lv_at {vs fs : List Int} {n i : Nat} (h : SmQ vs fs n) (hi : i < n) : ∃ r : Rat, pickR fs (lvQ fs (frN fs i) (frD fs i)) n = r ∧ fitR r = true ∧ 0 ≤ r.num ∧ frN fs i * (r.den : Nat) ≤ r.num * frD fs i ∧ r.num ≤ (r.den : Nat) := by
  refine ⟨_, rfl, pick_fit h _, ?_⟩
  obtain ⟨a, b, c⟩ := pick_bnd (fs := fs) (p := lvQ fs (frN fs i) (frD fs i)) n (fun k hk => frR_pos h.q hk)
  have d := c i hi (decide_eq_true (Nat.le_refl _))
  rw [h.q.one] at b
  generalize pickR fs (lvQ fs (frN fs i) (frD fs i)) n = r at *
  obtain ⟨e1, e2, _⟩ := vF_parts (h.q.ok i hi)
  refine ⟨Rat.num_nonneg.2 a, ?_, ?_⟩
  · rw [Rat.le_iff] at d
    unfold frR at d
    rw [e1, e2] at d
    exact d
  · rw [Rat.le_iff] at b
    have h1 : (1 : Rat).num = 1 := rfl
    have h2 : (1 : Rat).den = 1 := rfl
    rw [h1, h2] at b
    omega
end Go.Proofs.YtaneocedklnajaaGreat

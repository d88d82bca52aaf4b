import Derived.Test.YtaneocedklnajaaGreatWidX
import Derived.Test.YtaneocedklnajaaGreatLawTX
/- Lists of the reference's fractions of any size that grow by append. No condition but bounds. -/
namespace Go.Proofs.YtaneocedklnajaaGreat
open Go.RowKit
set_option linter.unusedVariables false
namespace B30

/-- The digits lie in no block of a list. -/
def Off (a : Option Addr) (l : Nat) (v : Value) : Prop := l ≠ 0 → ∀ g off, a = some ⟨g, off, none⟩ → v.ownBlock ≠ some g
theorem isBig_grow {w w' : World} {a : Option Addr} {l n : Nat} {v : Value} (h : IsBig w a l n) (hg : w.grownBy w' v.ownBlock) (hf : Off a l v) : IsBig w' a l n := by
  refine ⟨h.sm, h.len, h.rd.1, fun j hj => ?_⟩
  obtain ⟨g, off, e, c⟩ := h.rd.2 j hj
  refine ⟨g, off, e, ?_⟩
  have hlt : g < w.heap.size := by
    by_cases h2 : g < w.heap.size
    · exact h2
    · simp [World.cell?, Array.getElem?_eq_none (Nat.le_of_not_lt h2)] at c
  have hb := hg.block g hlt (fun e2 => hf (by omega) g off e e2.symm)
  rw [← c]
  simp only [World.cell?, hb]
theorem off_new {w : World} {a : Option Addr} {l n : Nat} {v v' : Value} (h : IsBig w a l n) (hf : Off a l v) (hat : v'.ownBlock = v.ownBlock ∨ v'.ownBlock = some w.heap.size) : Off a l v' := by
  intro hl g off e e2
  rcases hat with e1 | e1
  · exact hf hl g off e (by rw [← e1]; exact e2)
  · rw [e1] at e2
    cases e2
    obtain ⟨g', off', e', c⟩ := h.rd.2 0 (by omega)
    rw [e] at e'
    cases e'
    simp [World.cell?] at c
/-- One element, as it stands in a list. -/
structure El (w : World) (v : Value) (xs : List Value) (j : Nat) (sg : Bool) (a1 a2 : Option Addr) (l1 c1 l2 c2 : Nat) (fine : Bool) (p q : Int) (N D : Nat) (r : Rat) (bd : Nat) : Prop where
  e0 : xs[j * 6]? = some (.bool sg)
  e1 : xs[j * 6 + 1]? = some (.slice a1 l1 c1)
  e2 : xs[j * 6 + 2]? = some (.slice a2 l2 c2)
  e3 : xs[j * 6 + 3]? = some (.bool fine)
  e4 : xs[j * 6 + 4]? = some (.int .i64 p)
  e5 : xs[j * 6 + 5]? = some (.int .i64 q)
  wv : WvI w a1 a2 l1 c1 l2 c2 sg fine p q N D r
  o1 : Off a1 l1 v
  o2 : Off a2 l2 v
  n : N < 2 ^ bd
  d : D < 2 ^ bd
/-- A list that grows. -/
structure WlI (w : World) (k : Nat) (v : Value) (R : Nat → Rat) (bd : Nat) (xs : List Value) (wr : World) : Prop where
  own : wr.ownsRow w.heap.size 55 6 v k xs
  el : ∀ j, j < k → ∃ sg a1 a2 l1 c1 l2 c2 fine p q N D, El wr v xs j sg a1 a2 l1 c1 l2 c2 fine p q N D (R j) bd
  bel : Below w.heap.size w wr
theorem WlI.all {w : World} {k : Nat} {v : Value} {R : Nat → Rat} {bd : Nat} {xs : List Value} {wr wx : World} (h : WlI w k v R bd xs wr) (hb : Below wr.heap.size wr wx) : WlI w k v R bd xs wx :=
  ⟨own_below h.own hb, fun j hj => by
    obtain ⟨sg, a1, a2, l1, c1, l2, c2, fine, p, q, N, D, e⟩ := h.el j hj
    exact ⟨sg, a1, a2, l1, c1, l2, c2, fine, p, q, N, D, e.e0, e.e1, e.e2, e.e3, e.e4, e.e5, e.wv.below hb, e.o1, e.o2, e.n, e.d⟩, bthen h.bel hb⟩
theorem WlI.list {w : World} {k : Nat} {R : Nat → Rat} {bd : Nat} {xs : List Value} {wr : World} {a : Option Addr} {c : Nat} (h : WlI w k (.slice a k c) R bd xs wr) : WvL wr a k R bd := by
  intro j hj
  obtain ⟨sg, a1, a2, l1, c1, l2, c2, fine, p, q, N, D, e⟩ := h.el j hj
  obtain ⟨g, cap, hv⟩ : ∃ g cap, Value.slice a k c = .slice (some ⟨g, 0, none⟩) k cap := by
    rcases h.own.2 with ⟨_, h0⟩ | ⟨g, cap, cur, hv, _⟩
    · omega
    · exact ⟨g, cap, hv⟩
  simp only [Value.slice.injEq] at hv
  obtain ⟨rfl, _, rfl⟩ := hv
  refine ⟨g, 0, sg, a1, a2, l1, c1, l2, c2, fine, p, q, N, D, rfl, ?_⟩
  have hc : ∀ o, o < 6 → wr.cell? ⟨g, 0 + j * 6 + o, none⟩ = xs[j * 6 + o]? := fun o ho => by
    rw [Nat.zero_add]
    exact h.own.cellAt (j * 6 + o) (by omega)
  exact ⟨(hc 0 (by omega)).trans e.e0, (hc 1 (by omega)).trans e.e1, (hc 2 (by omega)).trans e.e2, (hc 3 (by omega)).trans e.e3, (hc 4 (by omega)).trans e.e4, (hc 5 (by omega)).trans e.e5, e.wv, e.n, e.d⟩
theorem WlI.push {w : World} {k : Nat} {v v' : Value} {R : Nat → Rat} {bd : Nat} {xs : List Value} {wr w6 : World} {sg : Bool} {a1 a2 : Option Addr} {l1 c1 l2 c2 : Nat} {fine : Bool} {p q : Int} {N D : Nat} (h : WlI w k v R bd xs wr)
    (hown : w6.ownsRow w.heap.size 55 6 v' (k + 1) (xs ++ [.bool sg, .slice a1 l1 c1, .slice a2 l2 c2, .bool fine, .int .i64 p, .int .i64 q])) (hg : wr.grownBy w6 v.ownBlock) (hat : v'.ownBlock = v.ownBlock ∨ v'.ownBlock = some wr.heap.size)
    (hv : WvI wr a1 a2 l1 c1 l2 c2 sg fine p q N D (R k)) (h1 : Off a1 l1 v) (h2 : Off a2 l2 v) (hN : N < 2 ^ bd) (hD : D < 2 ^ bd) :
    WlI w (k + 1) v' R bd (xs ++ [.bool sg, .slice a1 l1 c1, .slice a2 l2 c2, .bool fine, .int .i64 p, .int .i64 q]) w6 := by
  have hlen := h.own.1
  refine ⟨hown, fun j hj => ?_, below_grown h.bel h.own hg h.bel.size⟩
  rcases Nat.lt_or_ge j k with hlt | hge
  · obtain ⟨sg, a1, a2, l1, c1, l2, c2, fine, p, q, N, D, e⟩ := h.el j hlt
    have hx : ∀ o, o < 6 → ∀ ys : List Value, (xs ++ ys)[j * 6 + o]? = xs[j * 6 + o]? := fun o ho ys => List.getElem?_append_left (by omega)
    exact ⟨sg, a1, a2, l1, c1, l2, c2, fine, p, q, N, D, (hx 0 (by omega) _).trans e.e0, (hx 1 (by omega) _).trans e.e1, (hx 2 (by omega) _).trans e.e2, (hx 3 (by omega) _).trans e.e3, (hx 4 (by omega) _).trans e.e4, (hx 5 (by omega) _).trans e.e5,
      ⟨isBig_grow e.wv.n hg e.o1, isBig_grow e.wv.d hg e.o2, e.wv.cn, e.wv.cd, e.wv.pos, e.wv.val, e.wv.fin⟩, off_new e.wv.n e.o1 hat, off_new e.wv.d e.o2 hat, e.n, e.d⟩
  · obtain rfl : j = k := by omega
    have hx : ∀ o, ∀ ys : List Value, (xs ++ ys)[j * 6 + o]? = ys[o]? := fun o ys => by
      rw [List.getElem?_append_right (by omega)]
      congr 1
      omega
    exact ⟨sg, a1, a2, l1, c1, l2, c2, fine, p, q, N, D, (hx 0 _).trans rfl, (hx 1 _).trans rfl, (hx 2 _).trans rfl, (hx 3 _).trans rfl, (hx 4 _).trans rfl, (hx 5 _).trans rfl,
      ⟨isBig_grow hv.n hg h1, isBig_grow hv.d hg h2, hv.cn, hv.cd, hv.pos, hv.val, hv.fin⟩, off_new hv.n h1 hat, off_new hv.d h2 hat, hN, hD⟩
theorem off_of_new {w : World} {B T sz n B' l : Nat} {v : Value} {xs : List Value} {a : Option Addr} (h : w.ownsRow B T sz v n xs) (ha : NewA B' a) (hb : w.heap.size ≤ B') : Off a l v := by
  intro _ g off e e2
  have := (h.lt g e2).2
  obtain ⟨g', off', e', hg⟩ := ha
  rw [e'] at e
  simp only [Option.some.injEq, Addr.mk.injEq] at e
  omega
theorem own_shape {w : World} {B E sz : Nat} {v : Value} {n : Nat} {xs : List Value} (h : w.ownsRow B E sz v n xs) : ∃ a c, v = .slice a n c := by
  rcases h.2 with ⟨e, h0⟩ | ⟨g, c, cur, e, _⟩
  · subst h0; exact ⟨_, _, e⟩
  · exact ⟨_, _, e⟩
theorem wp_ap6 {P : Program} {o : Oper} {a : Act} {w : World} {K : Act → World → Prop} {Q : Exit → Act → World → Prop} (s x : Operand) (t : TypeId)
    (ho : o.op = .call { callee := .builtin .append, args := #[s, x], argTypes := #[t, t] })
    (base : Nat) (e : TypeId) (z : Value) (bytes : Nat) (ht : P.underlying t = some (.slice e)) (hinfo : (P.info? e).map (fun i => (i.zero, i.size, i.bytes)) = some (some z, 6, bytes)) (hzs : z.cells.size = 6)
    (v : Value) (n : Nat) (xs : List Value) (hs : a.eval s = v) (hown : w.ownsRow base e 6 v n xs) (b : Nat) (u0 u1 u2 u3 u4 u5 : Value) (hx : a.eval x = .slice (some ⟨b, 0, none⟩) 1 1)
    (hu : C6 w b u0 u1 u2 u3 u4 u5) (h1 : ([u0, u1, u2, u3, u4, u5].all Value.oneCell') = true) (hn : n < 1099511627) (hb : bytes ≤ 128) (hbase : base ≤ w.heap.size)
    (h : ∀ v' w', w'.ownsRow base e 6 v' (n + 1) (xs ++ [u0, u1, u2, u3, u4, u5]) → w.grownBy w' v.ownBlock → (v'.ownBlock = v.ownBlock ∨ v'.ownBlock = some w.heap.size) → K (a.put o.dst v') w') : o.wp P a w K Q := by
  obtain ⟨i, hi, hz, hsize, hby⟩ := info_parts hinfo
  have hm : (n + 1) * bytes ≤ (n + 1) * 128 := Nat.mul_le_mul_left _ hb
  obtain ⟨x0, x1, x2, x3, x4, x5, _, _, _, _, _, _, _⟩ := hu
  obtain ⟨v', w', hr, h3, h4, _, h5⟩ := run_append_own_at (P := P) w base t o.type e i z 6 bytes ht hi hz hsize hby hzs (by omega) v n xs hown ⟨b, 0, none⟩ 1 1 [u0, u1, u2, u3, u4, u5] rfl
    (fun j q hj => by
      match j, hj with
      | 0, hj => simp at hj; subst hj; simpa [Addr.add] using x0
      | 1, hj => simp at hj; subst hj; simpa [Addr.add] using x1
      | 2, hj => simp at hj; subst hj; simpa [Addr.add] using x2
      | 3, hj => simp at hj; subst hj; simpa [Addr.add] using x3
      | 4, hj => simp at hj; subst hj; simpa [Addr.add] using x4
      | 5, hj => simp at hj; subst hj; simpa [Addr.add] using x5)
    (fun q hq => by
      rw [List.all_eq_true] at h1
      exact h1 q hq) (by unfold maxLen; omega) (by omega) hbase
  unfold Oper.wp execOp
  simp only [ho, resolve, invoke, builtin, Sem.run_bind, Sem.run_pure, Result.andThen_ok, List.map_toArray, List.map_cons, List.map_nil, hs, hx, hr]
  exact h v' w' h3 h4 h5
theorem step_ap6 {P : Program} {ops : Array Oper} {o : Oper} {a : Act} {w : World} {K : Act → World → Prop} {Q : Exit → Act → World → Prop} {E : Prop} (hgd : o.guard = none) (s x : Operand) (t : TypeId)
    (ho : o.op = .call { callee := .builtin .append, args := #[s, x], argTypes := #[t, t] })
    (base : Nat) (e : TypeId) (z : Value) (bytes : Nat) (ht : P.underlying t = some (.slice e)) (hinfo : (P.info? e).map (fun i => (i.zero, i.size, i.bytes)) = some (some z, 6, bytes)) (hzs : z.cells.size = 6)
    (v : Value) (n : Nat) (xs : List Value) (hs : a.eval s = v) (hown : w.ownsRow base e 6 v n xs) (b : Nat) (u0 u1 u2 u3 u4 u5 : Value) (hx : a.eval x = .slice (some ⟨b, 0, none⟩) 1 1)
    (hu : C6 w b u0 u1 u2 u3 u4 u5) (h1 : ([u0, u1, u2, u3, u4, u5].all Value.oneCell') = true) (hn : n < 1099511627) (hb : bytes ≤ 128) (hbase : base ≤ w.heap.size)
    (h : ∀ v' w', w'.ownsRow base e 6 v' (n + 1) (xs ++ [u0, u1, u2, u3, u4, u5]) → w.grownBy w' v.ownBlock → (v'.ownBlock = v.ownBlock ∨ v'.ownBlock = some w.heap.size) → K (a.put o.dst v') w') :
    if Region.wanted o (yielded ops a.tmps) = true then Oper.wp P o a w K Q else E := by
  rw [if_pos (by simp [Region.wanted, hgd])]
  exact wp_ap6 s x t ho base e z bytes ht hinfo hzs v n xs hs hown b u0 u1 u2 u3 u4 u5 hx hu h1 hn hb hbase h
theorem infoWide : (Tryz.prog.info? 55).map (fun i => (i.zero, i.size, i.bytes)) = some (some (.agg #[.bool false, .slice none 0 0, .slice none 0 0, .bool false, .int .i64 0, .int .i64 0]), 6, 80) := by kernel_rfl
end B30
end Go.Proofs.YtaneocedklnajaaGreat
/- The reference's mean. No condition but bounds. -/
namespace Go.Proofs.YtaneocedklnajaaGreat
open Go.RowKit
set_option linter.unusedVariables false
namespace B30

/-- One summand of the mean. -/
def mnR (vs fs : List Int) (j : Nat) : Rat := mkRat (vs.getD j 0) 1 * frR fs j
theorem vF_int {x : Int} (h1 : -1000000000000000 ≤ x) (h2 : x ≤ 1000000000000000) : vF x 1 = true := by
  refine vF_iff.2 ⟨⟨by omega, by omega⟩, ⟨by omega, by omega⟩, ?_⟩
  show x.natAbs.gcd 1 = 1
  exact Nat.gcd_one_right _
end B30
end Go.Proofs.YtaneocedklnajaaGreat
/- The reference's mean, given back. No condition. -/
namespace Go.Proofs.YtaneocedklnajaaGreat
open Go.RowKit
set_option linter.unusedVariables false

/-- What the functions on a law give: a fraction, and whether it is one that a fraction can say. -/
def lrV (vs fs : List Int) (n m : Nat) (r : Rat) : Value := if lawOk vs fs n m then fracV r else zeroF
theorem fracV_form' (r : Rat) : ∃ p q b, fracV r = .tuple #[.agg #[.int .i64 p, .int .i64 q], .bool b] := by unfold fracV; split <;> exact ⟨_, _, _, rfl⟩
theorem lrV_form (vs fs : List Int) (n m : Nat) (r : Rat) : ∃ p q b, lrV vs fs n m r = .tuple #[.agg #[.int .i64 p, .int .i64 q], .bool b] := by
  unfold lrV zeroF; split
  · exact fracV_form' _
  · exact ⟨_, _, _, rfl⟩
end Go.Proofs.YtaneocedklnajaaGreat

import Derived.Test.YtklnfhjgbmfilaaWidX
import Derived.Test.YtklnfhjgbmfilaaLawTX
/- Lists of the reference's fractions of any size that grow by append. No condition but bounds. -/
namespace Go.Proofs.Ytklnfhjgbmfilaa
open Go.RowKit
set_option linter.unusedVariables false
namespace B30

/-- The digits lie in no block of a list. -/
def Off (a : Option Addr) (l : Nat) (v : Value) : Prop := l ≠ 0 → ∀ g off, a = some ⟨g, off, none⟩ → v.ownBlock ≠ some g
theorem isBig_grow {w w' : World} {a : Option Addr} {l n : Nat} {v : Value} (h : IsBig w a l n) (hg : w.grownBy w' v.ownBlock) (hf : Off a l v) : IsBig w' a l n := by
  refine ⟨h.sm, h.len, h.rd.1, fun j hj => ?_⟩
  obtain ⟨g, off, e, c⟩ := h.rd.2 j hj
  refine ⟨g, off, e, ?_⟩
  have hlt : g < w.heap.size := by
    by_cases h2 : g < w.heap.size
    · exact h2
    · simp [World.cell?, Array.getElem?_eq_none (Nat.le_of_not_lt h2)] at c
  have hb := hg.block g hlt (fun e2 => hf (by omega) g off e e2.symm)
  rw [← c]
  simp only [World.cell?, hb]
theorem off_new {w : World} {a : Option Addr} {l n : Nat} {v v' : Value} (h : IsBig w a l n) (hf : Off a l v) (hat : v'.ownBlock = v.ownBlock ∨ v'.ownBlock = some w.heap.size) : Off a l v' := by
  intro hl g off e e2
  rcases hat with e1 | e1
  · exact hf hl g off e (by rw [← e1]; exact e2)
  · rw [e1] at e2
    cases e2
    obtain ⟨g', off', e', c⟩ := h.rd.2 0 (by omega)
    rw [e] at e'
    cases e'
    simp [World.cell?] at c
/-- One element, as it stands in a list. -/
structure El (w : World) (v : Value) (xs : List Value) (j : Nat) (sg : Bool) (a1 a2 : Option Addr) (l1 c1 l2 c2 : Nat) (fine : Bool) (p q : Int) (N D : Nat) (r : Rat) (bd : Nat) : Prop where
  e0 : xs[j * 6]? = some (.bool sg)
  e1 : xs[j * 6 + 1]? = some (.slice a1 l1 c1)
  e2 : xs[j * 6 + 2]? = some (.slice a2 l2 c2)
  e3 : xs[j * 6 + 3]? = some (.bool fine)
  e4 : xs[j * 6 + 4]? = some (.int .i64 p)
  e5 : xs[j * 6 + 5]? = some (.int .i64 q)
  wv : WvI w a1 a2 l1 c1 l2 c2 sg fine p q N D r
  o1 : Off a1 l1 v
  o2 : Off a2 l2 v
  n : N < 2 ^ bd
  d : D < 2 ^ bd
/-- A list that grows. -/
structure WlI (w : World) (k : Nat) (v : Value) (R : Nat → Rat) (bd : Nat) (xs : List Value) (wr : World) : Prop where
  own : wr.ownsRow w.heap.size 97 6 v k xs
  el : ∀ j, j < k → ∃ sg a1 a2 l1 c1 l2 c2 fine p q N D, El wr v xs j sg a1 a2 l1 c1 l2 c2 fine p q N D (R j) bd
  bel : Below w.heap.size w wr
theorem WlI.all {w : World} {k : Nat} {v : Value} {R : Nat → Rat} {bd : Nat} {xs : List Value} {wr wx : World} (h : WlI w k v R bd xs wr) (hb : Below wr.heap.size wr wx) : WlI w k v R bd xs wx :=
  ⟨own_below h.own hb, fun j hj => by
    obtain ⟨sg, a1, a2, l1, c1, l2, c2, fine, p, q, N, D, e⟩ := h.el j hj
    exact ⟨sg, a1, a2, l1, c1, l2, c2, fine, p, q, N, D, e.e0, e.e1, e.e2, e.e3, e.e4, e.e5, e.wv.below hb, e.o1, e.o2, e.n, e.d⟩, bthen h.bel hb⟩
theorem WlI.list {w : World} {k : Nat} {R : Nat → Rat} {bd : Nat} {xs : List Value} {wr : World} {a : Option Addr} {c : Nat} (h : WlI w k (.slice a k c) R bd xs wr) : WvL wr a k R bd := by
  intro j hj
  obtain ⟨sg, a1, a2, l1, c1, l2, c2, fine, p, q, N, D, e⟩ := h.el j hj
  obtain ⟨g, cap, hv⟩ : ∃ g cap, Value.slice a k c = .slice (some ⟨g, 0, none⟩) k cap := by
    rcases h.own.2 with ⟨_, h0⟩ | ⟨g, cap, cur, hv, _⟩
    · omega
    · exact ⟨g, cap, hv⟩
  simp only [Value.slice.injEq] at hv
  obtain ⟨rfl, _, rfl⟩ := hv
  refine ⟨g, 0, sg, a1, a2, l1, c1, l2, c2, fine, p, q, N, D, rfl, ?_⟩
  have hc : ∀ o, o < 6 → wr.cell? ⟨g, 0 + j * 6 + o, none⟩ = xs[j * 6 + o]? := fun o ho => by
    rw [Nat.zero_add]
    exact h.own.cellAt (j * 6 + o) (by omega)
  exact ⟨(hc 0 (by omega)).trans e.e0, (hc 1 (by omega)).trans e.e1, (hc 2 (by omega)).trans e.e2, (hc 3 (by omega)).trans e.e3, (hc 4 (by omega)).trans e.e4, (hc 5 (by omega)).trans e.e5, e.wv, e.n, e.d⟩
theorem WlI.push {w : World} {k : Nat} {v v' : Value} {R : Nat → Rat} {bd : Nat} {xs : List Value} {wr w6 : World} {sg : Bool} {a1 a2 : Option Addr} {l1 c1 l2 c2 : Nat} {fine : Bool} {p q : Int} {N D : Nat} (h : WlI w k v R bd xs wr)
    (hown : w6.ownsRow w.heap.size 97 6 v' (k + 1) (xs ++ [.bool sg, .slice a1 l1 c1, .slice a2 l2 c2, .bool fine, .int .i64 p, .int .i64 q])) (hg : wr.grownBy w6 v.ownBlock) (hat : v'.ownBlock = v.ownBlock ∨ v'.ownBlock = some wr.heap.size)
    (hv : WvI wr a1 a2 l1 c1 l2 c2 sg fine p q N D (R k)) (h1 : Off a1 l1 v) (h2 : Off a2 l2 v) (hN : N < 2 ^ bd) (hD : D < 2 ^ bd) :
    WlI w (k + 1) v' R bd (xs ++ [.bool sg, .slice a1 l1 c1, .slice a2 l2 c2, .bool fine, .int .i64 p, .int .i64 q]) w6 := by
  have hlen := h.own.1
  refine ⟨hown, fun j hj => ?_, below_grown h.bel h.own hg h.bel.size⟩
  rcases Nat.lt_or_ge j k with hlt | hge
  · obtain ⟨sg, a1, a2, l1, c1, l2, c2, fine, p, q, N, D, e⟩ := h.el j hlt
    have hx : ∀ o, o < 6 → ∀ ys : List Value, (xs ++ ys)[j * 6 + o]? = xs[j * 6 + o]? := fun o ho ys => List.getElem?_append_left (by omega)
    exact ⟨sg, a1, a2, l1, c1, l2, c2, fine, p, q, N, D, (hx 0 (by omega) _).trans e.e0, (hx 1 (by omega) _).trans e.e1, (hx 2 (by omega) _).trans e.e2, (hx 3 (by omega) _).trans e.e3, (hx 4 (by omega) _).trans e.e4, (hx 5 (by omega) _).trans e.e5,
      ⟨isBig_grow e.wv.n hg e.o1, isBig_grow e.wv.d hg e.o2, e.wv.cn, e.wv.cd, e.wv.pos, e.wv.val, e.wv.fin⟩, off_new e.wv.n e.o1 hat, off_new e.wv.d e.o2 hat, e.n, e.d⟩
  · obtain rfl : j = k := by omega
    have hx : ∀ o, ∀ ys : List Value, (xs ++ ys)[j * 6 + o]? = ys[o]? := fun o ys => by
      rw [List.getElem?_append_right (by omega)]
      congr 1
      omega
    exact ⟨sg, a1, a2, l1, c1, l2, c2, fine, p, q, N, D, (hx 0 _).trans rfl, (hx 1 _).trans rfl, (hx 2 _).trans rfl, (hx 3 _).trans rfl, (hx 4 _).trans rfl, (hx 5 _).trans rfl,
      ⟨isBig_grow hv.n hg h1, isBig_grow hv.d hg h2, hv.cn, hv.cd, hv.pos, hv.val, hv.fin⟩, off_new hv.n h1 hat, off_new hv.d h2 hat, hN, hD⟩
theorem off_of_new {w : World} {B T sz n B' l : Nat} {v : Value} {xs : List Value} {a : Option Addr} (h : w.ownsRow B T sz v n xs) (ha : NewA B' a) (hb : w.heap.size ≤ B') : Off a l v := by
  intro _ g off e e2
  have := (h.lt g e2).2
  obtain ⟨g', off', e', hg⟩ := ha
  rw [e'] at e
  simp only [Option.some.injEq, Addr.mk.injEq] at e
  omega
theorem own_shape {w : World} {B E sz : Nat} {v : Value} {n : Nat} {xs : List Value} (h : w.ownsRow B E sz v n xs) : ∃ a c, v = .slice a n c := by
  rcases h.2 with ⟨e, h0⟩ | ⟨g, c, cur, e, _⟩
  · subst h0; exact ⟨_, _, e⟩
  · exact ⟨_, _, e⟩
theorem wp_ap6 {P : Program} {o : Oper} {a : Act} {w : World} {K : Act → World → Prop} {Q : Exit → Act → World → Prop} (s x : Operand) (t : TypeId)
    (ho : o.op = .call { callee := .builtin .append, args := #[s, x], argTypes := #[t, t] })
    (base : Nat) (e : TypeId) (z : Value) (bytes : Nat) (ht : P.underlying t = some (.slice e)) (hinfo : (P.info? e).map (fun i => (i.zero, i.size, i.bytes)) = some (some z, 6, bytes)) (hzs : z.cells.size = 6)
    (v : Value) (n : Nat) (xs : List Value) (hs : a.eval s = v) (hown : w.ownsRow base e 6 v n xs) (b : Nat) (u0 u1 u2 u3 u4 u5 : Value) (hx : a.eval x = .slice (some ⟨b, 0, none⟩) 1 1)
    (hu : C6 w b u0 u1 u2 u3 u4 u5) (h1 : ([u0, u1, u2, u3, u4, u5].all Value.oneCell') = true) (hn : n < 1099511627) (hb : bytes ≤ 128) (hbase : base ≤ w.heap.size)
    (h : ∀ v' w', w'.ownsRow base e 6 v' (n + 1) (xs ++ [u0, u1, u2, u3, u4, u5]) → w.grownBy w' v.ownBlock → (v'.ownBlock = v.ownBlock ∨ v'.ownBlock = some w.heap.size) → K (a.put o.dst v') w') : o.wp P a w K Q := by
  obtain ⟨i, hi, hz, hsize, hby⟩ := info_parts hinfo
  have hm : (n + 1) * bytes ≤ (n + 1) * 128 := Nat.mul_le_mul_left _ hb
  obtain ⟨x0, x1, x2, x3, x4, x5, _, _, _, _, _, _, _⟩ := hu
  obtain ⟨v', w', hr, h3, h4, _, h5⟩ := run_append_own_at (P := P) w base t o.type e i z 6 bytes ht hi hz hsize hby hzs (by omega) v n xs hown ⟨b, 0, none⟩ 1 1 [u0, u1, u2, u3, u4, u5] rfl
    (fun j q hj => by
      match j, hj with
      | 0, hj => simp at hj; subst hj; simpa [Addr.add] using x0
      | 1, hj => simp at hj; subst hj; simpa [Addr.add] using x1
      | 2, hj => simp at hj; subst hj; simpa [Addr.add] using x2
      | 3, hj => simp at hj; subst hj; simpa [Addr.add] using x3
      | 4, hj => simp at hj; subst hj; simpa [Addr.add] using x4
      | 5, hj => simp at hj; subst hj; simpa [Addr.add] using x5)
    (fun q hq => by
      rw [List.all_eq_true] at h1
      exact h1 q hq) (by unfold maxLen; omega) (by omega) hbase
  unfold Oper.wp execOp
  simp only [ho, resolve, invoke, builtin, Sem.run_bind, Sem.run_pure, Result.andThen_ok, List.map_toArray, List.map_cons, List.map_nil, hs, hx, hr]
  exact h v' w' h3 h4 h5
theorem step_ap6 {P : Program} {ops : Array Oper} {o : Oper} {a : Act} {w : World} {K : Act → World → Prop} {Q : Exit → Act → World → Prop} {E : Prop} (hgd : o.guard = none) (s x : Operand) (t : TypeId)
    (ho : o.op = .call { callee := .builtin .append, args := #[s, x], argTypes := #[t, t] })
    (base : Nat) (e : TypeId) (z : Value) (bytes : Nat) (ht : P.underlying t = some (.slice e)) (hinfo : (P.info? e).map (fun i => (i.zero, i.size, i.bytes)) = some (some z, 6, bytes)) (hzs : z.cells.size = 6)
    (v : Value) (n : Nat) (xs : List Value) (hs : a.eval s = v) (hown : w.ownsRow base e 6 v n xs) (b : Nat) (u0 u1 u2 u3 u4 u5 : Value) (hx : a.eval x = .slice (some ⟨b, 0, none⟩) 1 1)
    (hu : C6 w b u0 u1 u2 u3 u4 u5) (h1 : ([u0, u1, u2, u3, u4, u5].all Value.oneCell') = true) (hn : n < 1099511627) (hb : bytes ≤ 128) (hbase : base ≤ w.heap.size)
    (h : ∀ v' w', w'.ownsRow base e 6 v' (n + 1) (xs ++ [u0, u1, u2, u3, u4, u5]) → w.grownBy w' v.ownBlock → (v'.ownBlock = v.ownBlock ∨ v'.ownBlock = some w.heap.size) → K (a.put o.dst v') w') :
    if Region.wanted o (yielded ops a.tmps) = true then Oper.wp P o a w K Q else E := by
  rw [if_pos (by simp [Region.wanted, hgd])]
  exact wp_ap6 s x t ho base e z bytes ht hinfo hzs v n xs hs hown b u0 u1 u2 u3 u4 u5 hx hu h1 hn hb hbase h
theorem infoWide : (Try.prog.info? 97).map (fun i => (i.zero, i.size, i.bytes)) = some (some (.agg #[.bool false, .slice none 0 0, .slice none 0 0, .bool false, .int .i64 0, .int .i64 0]), 6, 80) := by kernel_rfl
end B30
end Go.Proofs.Ytklnfhjgbmfilaa
/- The reference's mean. No condition but bounds. -/
namespace Go.Proofs.Ytklnfhjgbmfilaa
open Go.RowKit
set_option linter.unusedVariables false
namespace B30

/-- One summand of the mean. -/
def mnR (vs fs : List Int) (j : Nat) : Rat := mkRat (vs.getD j 0) 1 * frR fs j
theorem vF_int {x : Int} (h1 : -1000000000000000 ≤ x) (h2 : x ≤ 1000000000000000) : vF x 1 = true := by
  refine vF_iff.2 ⟨⟨by omega, by omega⟩, ⟨by omega, by omega⟩, ?_⟩
  show x.natAbs.gcd 1 = 1
  exact Nat.gcd_one_right _
set_option maxRecDepth 20000 in
set_option maxHeartbeats 3200000 in
theorem l05Mean_any (b : Nat) (a1 a2 : Option Addr) (n c1 c2 : Nat) (vs fs : List Int) (w : World) (hQ : LawQ vs fs n) (h0 : C2 w b (.slice a1 n c1) (.slice a2 n c2)) (h1 : IsInts w a1 n vs) (h2 : IsInts w a2 (n * 2) fs) :
    Calls Try.prog 64 #[.pointer (some ⟨b, 0, none⟩)] w (RetWide w w.heap.size (sumW (mnR vs fs) n) (60 + n * 241)) := by
  have hA : Below w.heap.size w (w.alloc (.cells #[.bool false, .slice none 0 0, .slice none 0 0, .bool false, .int .i64 0, .int .i64 0] 97)) := (Below.refl _ w).alloc (Nat.le_refl _) _
  have hsz : (w.alloc (.cells #[.bool false, .slice none 0 0, .slice none 0 0, .bool false, .int .i64 0, .int .i64 0] 97)).heap.size = w.heap.size + 1 := alloc_size _ _
  have hres := C6.new w 97 (.bool false) (.slice none 0 0) (.slice none 0 0) (.bool false) (.int .i64 0) (.int .i64 0)
  have H0 := Lib.hid (show LvS w b (.slice a1 n c1) (.slice a2 n c2) a1 a2 n n vs fs (w.alloc (.cells #[.bool false, .slice none 0 0, .slice none 0 0, .bool false, .int .i64 0, .int .i64 0] 97)) ∧ C6 (w.alloc (.cells #[.bool false, .slice none 0 0, .slice none 0 0, .bool false, .int .i64 0, .int .i64 0] 97)) w.heap.size (.bool false) (.slice none 0 0) (.slice none 0 0) (.bool false) (.int .i64 0) (.int .i64 0) ∧ (w.alloc (.cells #[.bool false, .slice none 0 0, .slice none 0 0, .bool false, .int .i64 0, .int .i64 0] 97)).heap.size = w.heap.size + 1 from ⟨⟨h0.all hA, h1.below hA, h2.below hA, hA⟩, hres, hsz⟩)
  have hn64 := hQ.n64
  have HQ := Lib.hid hQ
  clear h0 h1 h2 hA hres hsz hQ
  go_enter Try.func64, Try.ntmps64
  go_wp2_with fail
  obtain ⟨wA, hwA⟩ : ∃ w', (w.alloc (.cells #[.bool false, .slice none 0 0, .slice none 0 0, .bool false, .int .i64 0, .int .i64 0] 97)) = w' := ⟨_, rfl⟩
  rw [hwA] at H0 ⊢
  clear hwA
  have HM := Lib.hid (show WlI wA 0 (.slice (some ⟨wA.heap.size, 0, none⟩) 0 0) (mnR vs fs) 180 [] (wA.alloc (.cells #[] 97)) from
    ⟨World.ownsRow_lit wA #[] 0 (Nat.le_refl _) (by decide) rfl, fun j hj => absurd hj (Nat.not_lt_zero _), (Below.refl _ wA).alloc (Nat.le_refl _) _⟩)
  have hszA := H0.out.2.2
  rw [hszA] at HM
  obtain ⟨wB, hwB⟩ : ∃ w', wA.alloc (.cells #[] 97) = w' := ⟨_, rfl⟩
  rw [hwB] at HM ⊢
  clear hwB hszA
  go_loopw [4, 3] (fun i V wr => ∃ (k : Nat) (ga : Option Addr) (ca : Nat) (xs : List Value), k ≤ n ∧ i = .int .i64 (k : Nat) ∧ V = .slice ga k ca ∧ Hid (WlI wA k (.slice ga k ca) (mnR vs fs) 180 xs wr)) (fun i _ _ => n - (intOf i).toNat)
  case atStart => exact ⟨0, _, _, [], Nat.zero_le _, rfl, rfl, HM⟩
  case round =>
    clear HM
    obtain ⟨k, ga, ca, xs, hk, rfl, rfl, HM⟩ := hrel
    by_cases hlt : k < n
    · obtain ⟨x0, x1, x2, x3, x4⟩ := H0.out.1.bx.all HM.out.bel
      obtain ⟨g, off, rfl, c⟩ := (H0.out.1.val.below HM.out.bel).at hlt
      obtain ⟨g2, off2, rfl, e1, e2⟩ := fr_at (H0.out.1.cha.below HM.out.bel) hlt
      obtain ⟨x, hx⟩ : ∃ x, vs.getD k 0 = x := ⟨_, rfl⟩
      rw [hx] at c
      have HX := Lib.hid hx
      have hvx : vF x 1 = true := by
        have := HQ.out.rng k hlt
        rw [hx] at this
        exact vF_int this.1 this.2
      have HW1 := Lib.hid (fun w => wideOf_any x 1 w hvx)
      have HW2 := Lib.hid (fun w => wideOf_any (frN fs k) (frD fs k) w (HQ.out.ok k hlt))
      have HSA : Hid (∀ w', Below wA.heap.size wA w' → w'.cell? ⟨b, 0, none⟩ = some (.slice (some ⟨g, off, none⟩) n c1) ∧ w'.cell? ⟨b, 1, none⟩ = some (.slice (some ⟨g2, off2, none⟩) n c2) ∧ w'.cell? ⟨g, off + k, none⟩ = some (.int .i64 x) ∧ w'.cell? ⟨g2, off2 + k * 2, none⟩ = some (.int .i64 (frN fs k)) ∧ w'.cell? ⟨g2, off2 + k * 2 + 1, none⟩ = some (.int .i64 (frD fs k))) := Lib.hid (by
        intro w' hb
        obtain ⟨u0, u1, u2, u3, u4⟩ := H0.out.1.bx.all hb
        obtain ⟨g', off', e', c'⟩ := (H0.out.1.val.below hb).at hlt
        obtain ⟨g3, off3, e3', c3, c4⟩ := fr_at (H0.out.1.cha.below hb) hlt
        cases e'
        cases e3'
        rw [hx] at c'
        exact ⟨u0, u1, c', c3, c4⟩)
      clear hx hvx
      have hki : (k : Int) < (n : Int) := by omega
      have hk0 : (0 : Int) ≤ (k : Int) := by omega
      go_wp2_with fail
      obtain ⟨V, hV⟩ : ∃ V, Value.slice ga k ca = V := ⟨_, rfl⟩
      rw [hV] at HM ⊢
      have hgd : Below wr.heap.size wr wr.drew := (Below.refl _ wr).drew
      have HM1 := Lib.hid (HM.out.all hgd)
      have hS : wr.drew.cell? ⟨b, 0, none⟩ = some (.slice (some ⟨g, off, none⟩) n c1) ∧ wr.drew.cell? ⟨b, 1, none⟩ = some (.slice (some ⟨g2, off2, none⟩) n c2) ∧ wr.drew.cell? ⟨g, off + k, none⟩ = some (.int .i64 x) ∧ wr.drew.cell? ⟨g2, off2 + k * 2, none⟩ = some (.int .i64 (frN fs k)) ∧ wr.drew.cell? ⟨g2, off2 + k * 2 + 1, none⟩ = some (.int .i64 (frD fs k)) := HSA.out _ HM1.out.bel
      clear hgd HM x0 x1 x2 x3 x4 c e1 e2
      refine wp_region_any (by kernel_rfl) (any_of_K (k := 21) (S := fun w' => w'.cell? ⟨b, 0, none⟩ = some (.slice (some ⟨g, off, none⟩) n c1) ∧ w'.cell? ⟨b, 1, none⟩ = some (.slice (some ⟨g2, off2, none⟩) n c2) ∧ w'.cell? ⟨g, off + k, none⟩ = some (.int .i64 x) ∧ w'.cell? ⟨g2, off2 + k * 2, none⟩ = some (.int .i64 (frN fs k)) ∧ w'.cell? ⟨g2, off2 + k * 2 + 1, none⟩ = some (.int .i64 (frD fs k))) (T := fun _ => True) _ _ _ _ ?_)
      refine anyT_take (i := 0) (n := 21) (v := V) rfl (by decide) (by kernel_rfl) (by kernel_rfl) (by kernel_rfl) (fun _ _ _ h => h) (Or.inl ⟨by kernel_rfl, fun w' hw => by go_simp⟩) hS trivial ?_
      refine anyT_take (i := 1) (n := 20) (v := .pointer (some ⟨b, 0, none⟩)) rfl (by decide) (by kernel_rfl) (by kernel_rfl) (by kernel_rfl) (fun _ _ _ h => h) (Or.inl ⟨by kernel_rfl, fun w' hw => by go_simp⟩) hS trivial ?_
      refine anyT_take (i := 2) (n := 19) (v := .pointer (some ⟨b, 0, none⟩)) rfl (by decide) (by kernel_rfl) (by kernel_rfl) (by kernel_rfl) (fun _ _ _ h => h) (Or.inl ⟨by kernel_rfl, fun w' hw => by go_simp⟩) hS trivial ?_
      refine anyT_take (i := 3) (n := 18) (v := .pointer (some ⟨b, 0, none⟩)) rfl (by decide) (by kernel_rfl) (by kernel_rfl) (by kernel_rfl) (fun _ _ _ h => h) (Or.inl ⟨by kernel_rfl, fun w' hw => by go_simp⟩) hS trivial ?_
      refine anyK_take (i := 4) (n := 17) (v := .slice (some ⟨g, off, none⟩) n c1) rfl rfl (by kernel_rfl) (by kernel_rfl) (by kernel_rfl) (by kernel_rfl) (by kernel_rfl) (fun _ _ _ h => h) (Or.inl ⟨by kernel_rfl, fun w' hw => by (obtain ⟨z0, z1, z2, z3, z4⟩ := hw; go_simp)⟩) hS trivial ?_
      refine anyT_take (i := 5) (n := 16) (v := .int .i64 (k : Nat)) rfl (by decide) (by kernel_rfl) (by kernel_rfl) (by kernel_rfl) (fun _ _ _ h => h) (Or.inl ⟨by kernel_rfl, fun w' hw => by go_simp⟩) hS trivial ?_
      refine anyT_take (i := 6) (n := 15) (v := .pointer (some ⟨g, off + k, none⟩)) rfl (by decide) (by kernel_rfl) (by kernel_rfl) (by kernel_rfl) (fun _ _ _ h => h) (Or.inl ⟨by kernel_rfl, fun w' hw => by go_simp⟩) hS trivial ?_
      refine anyK_take (i := 7) (n := 14) (v := .int .i64 x) rfl rfl (by kernel_rfl) (by kernel_rfl) (by kernel_rfl) (by kernel_rfl) (by kernel_rfl) (fun _ _ _ h => h) (Or.inl ⟨by kernel_rfl, fun w' hw => by (obtain ⟨z0, z1, z2, z3, z4⟩ := hw; go_simp)⟩) hS trivial ?_
      refine anyT_take (i := 8) (n := 13) (v := .agg #[.int .i64 x, .int .i64 1]) rfl (by decide) (by kernel_rfl) (by kernel_rfl) (by kernel_rfl) (fun _ _ _ h => h) (Or.inl ⟨by kernel_rfl, fun w' hw => by go_simp⟩) hS trivial ?_
      refine anyT_take (i := 10) (n := 12) (v := .pointer (some ⟨b, 0, none⟩)) rfl (by decide) (by kernel_rfl) (by kernel_rfl) (by kernel_rfl) (fun _ _ _ h => h) (Or.inl ⟨by kernel_rfl, fun w' hw => by go_simp⟩) hS trivial ?_
      refine anyT_take (i := 11) (n := 11) (v := .pointer (some ⟨b, 0, none⟩)) rfl (by decide) (by kernel_rfl) (by kernel_rfl) (by kernel_rfl) (fun _ _ _ h => h) (Or.inl ⟨by kernel_rfl, fun w' hw => by go_simp⟩) hS trivial ?_
      refine anyT_take (i := 12) (n := 10) (v := .pointer (some ⟨b, 1, none⟩)) rfl (by decide) (by kernel_rfl) (by kernel_rfl) (by kernel_rfl) (fun _ _ _ h => h) (Or.inl ⟨by kernel_rfl, fun w' hw => by go_simp⟩) hS trivial ?_
      refine anyK_take (i := 13) (n := 9) (v := .slice (some ⟨g2, off2, none⟩) n c2) rfl rfl (by kernel_rfl) (by kernel_rfl) (by kernel_rfl) (by kernel_rfl) (by kernel_rfl) (fun _ _ _ h => h) (Or.inl ⟨by kernel_rfl, fun w' hw => by (obtain ⟨z0, z1, z2, z3, z4⟩ := hw; go_simp)⟩) hS trivial ?_
      refine anyT_take (i := 14) (n := 8) (v := .int .i64 (k : Nat)) rfl (by decide) (by kernel_rfl) (by kernel_rfl) (by kernel_rfl) (fun _ _ _ h => h) (Or.inl ⟨by kernel_rfl, fun w' hw => by go_simp⟩) hS trivial ?_
      refine anyT_take (i := 15) (n := 7) (v := .pointer (some ⟨g2, off2 + k * 2, none⟩)) rfl (by decide) (by kernel_rfl) (by kernel_rfl) (by kernel_rfl) (fun _ _ _ h => h) (Or.inl ⟨by kernel_rfl, fun w' hw => by go_simp⟩) hS trivial ?_
      refine anyK_take (i := 16) (n := 6) (v := .agg #[.int .i64 (frN fs k), .int .i64 (frD fs k)]) rfl rfl (by kernel_rfl) (by kernel_rfl) (by kernel_rfl) (by kernel_rfl) (by kernel_rfl) (fun _ _ _ h => h) (Or.inl ⟨by kernel_rfl, fun w' hw => by (obtain ⟨z0, z1, z2, z3, z4⟩ := hw; go_simp)⟩) hS trivial ?_
      refine anyK_all (n := 5) (rs := [9]) (by kernel_rfl) (by simp) (fun i hi => ?_)
      simp only [List.mem_cons, List.not_mem_nil, or_false] at hi
      obtain rfl := hi
      refine wpOp_step rfl (fun K' hK => ?_)
      go_simp
      refine (HW1.out _).mono ?_
      rintro e w5 ⟨s3, t1, t2, t3, t4, t5, t6, f3, p3, q3, N3, D3, rfl, hv3, ⟨hN3, hD3⟩, _, hb3⟩
      have HM5 := Lib.hid (HM1.out.all hb3)
      have hS5 := HSA.out _ HM5.out.bel
      have HV3 := Lib.hid (And.intro hv3 (And.intro hN3 hD3))
      refine hK _ _ ⟨fun _ _ => hS5, trivial, ?_⟩
      clear hK hv3 hN3 hD3 hb3 hS HM1
      refine anyK_all (n := 4) (rs := [17]) (by kernel_rfl) (by simp) (fun i hi => ?_)
      simp only [List.mem_cons, List.not_mem_nil, or_false] at hi
      obtain rfl := hi
      refine wpOp_step rfl (fun K' hK => ?_)
      go_simp
      refine (HW2.out _).mono ?_
      rintro e w6 ⟨s4, d1, d2, d3, d4, d5, d6, f4, p4, q4, N4, D4, rfl, hv4, ⟨hN4, hD4⟩, _, hb4⟩
      have HM6 := Lib.hid (HM5.out.all hb4)
      have hS6 := HSA.out _ HM6.out.bel
      have HWM := Lib.hid (wideMul_any s3 s4 f3 f4 t1 t4 d1 d4 t2 t3 t5 t6 d2 d3 d5 d6 p3 q3 p4 q4 N3 D3 N4 D4 60 60 _ _ w6 (HV3.out.1.below hb4) hv4 HV3.out.2.1 HV3.out.2.2 hN4 hD4 (by decide) (by decide))
      refine hK _ _ ⟨fun _ _ => hS6, trivial, ?_⟩
      clear hK hv4 hN4 hD4 hb4 hS5 HM5 HV3
      refine anyK_all (n := 3) (rs := [18]) (by kernel_rfl) (by simp) (fun i hi => ?_)
      simp only [List.mem_cons, List.not_mem_nil, or_false] at hi
      obtain rfl := hi
      refine wpOp_step rfl (fun K' hK => ?_)
      go_simp
      refine HWM.out.mono ?_
      rintro e w7 ⟨s5, y1, y2, y3, y4, y5, y6, f5, p5, q5, N5, D5, rfl, hv5, ⟨hN5, hD5⟩, ⟨hA5, hA6⟩, hb5⟩
      have HM7 := Lib.hid (HM6.out.all hb5)
      have hS7 := HSA.out _ HM7.out.bel
      have HV5 := Lib.hid (show WvI w7 y1 y4 y2 y3 y5 y6 s5 f5 p5 q5 N5 D5 (mnR vs fs k) ∧ (N5 < 2 ^ 180 ∧ D5 < 2 ^ 180) ∧ (Off y1 y2 V ∧ Off y4 y5 V) from ⟨by unfold mnR; rw [HX.out]; exact hv5, ⟨hN5, hD5⟩, off_of_new HM6.out.own hA5 (Nat.le_refl _), off_of_new HM6.out.own hA6 (Nat.le_refl _)⟩)
      refine hK _ _ ⟨fun _ _ => hS7, trivial, ?_⟩
      clear hK hv5 hN5 hD5 hA5 hA6 hb5 hS6 HM6 HWM
      refine anyK_all (n := 2) (rs := [19]) (by kernel_rfl) (by simp) (fun i hi => ?_)
      simp only [List.mem_cons, List.not_mem_nil, or_false] at hi
      obtain rfl := hi
      refine wpOp_step rfl (fun K' hK => ?_)
      go_simp
      have hb8 : Below w7.heap.size w7 (w7.alloc (.cells #[.bool s5, .slice y1 y2 y3, .slice y4 y5 y6, .bool f5, .int .i64 p5, .int .i64 q5] 97)) := (Below.refl _ w7).alloc (Nat.le_refl _) _
      have HM8 := Lib.hid (HM7.out.all hb8)
      have hS8 := HSA.out _ HM8.out.bel
      have HV8 := Lib.hid (And.intro (HV5.out.1.below hb8) HV5.out.2)
      have HC8 := Lib.hid (C6.new w7 97 (.bool s5) (.slice y1 y2 y3) (.slice y4 y5 y6) (.bool f5) (.int .i64 p5) (.int .i64 q5))
      refine hK _ _ ⟨fun _ _ => hS8, trivial, ?_⟩
      clear hK hb8 hS7 HM7 HV5
      obtain ⟨w8, hw8⟩ : ∃ w', (w7.alloc (.cells #[.bool s5, .slice y1 y2 y3, .slice y4 y5 y6, .bool f5, .int .i64 p5, .int .i64 q5] 97)) = w' := ⟨_, rfl⟩
      obtain ⟨b8, hbb8⟩ : ∃ b, w7.heap.size = b := ⟨_, rfl⟩
      rw [hw8] at HM8 hS8 HV8
      rw [hw8, hbb8] at HC8
      rw [hw8, hbb8]
      clear hw8 hbb8
      refine anyK_all (n := 1) (rs := [20]) (by kernel_rfl) (by simp) (fun i hi => ?_)
      simp only [List.mem_cons, List.not_mem_nil, or_false] at hi
      obtain rfl := hi
      refine wpOp_step rfl (fun K' hK => ?_)
      refine step_ap6 rfl (.tmp 15) (.tmp 34) 101 rfl wA.heap.size 97 (.agg #[.bool false, .slice none 0 0, .slice none 0 0, .bool false, .int .i64 0, .int .i64 0]) 80 Try.underlying101 infoWide rfl V k xs rfl HM8.out.own b8 _ _ _ _ _ _ rfl HC8.out rfl (by omega) (by omega) HM8.out.bel.size ?_
      intro v9 w9 hown hgrow hat
      obtain ⟨ag9, cg9, rfl⟩ := own_shape hown
      have HM9 := Lib.hid (HM8.out.push hown hgrow hat HV8.out.1 HV8.out.2.2.1 HV8.out.2.2.2 HV8.out.2.1.1 HV8.out.2.1.2)
      have hS9 := HSA.out _ HM9.out.bel
      refine hK _ _ ⟨fun _ _ => hS9, trivial, ?_⟩
      clear hK hown hgrow hat hS8 HM8 HV8 HC8
      refine anyK_all (n := 0) (rs := [21]) (by kernel_rfl) (by simp) (fun i hi => ?_)
      simp only [List.mem_cons, List.not_mem_nil, or_false] at hi
      obtain rfl := hi
      refine wpOp_step rfl (fun K' hK => ?_)
      go_simp
      refine hK _ _ ⟨fun h => absurd rfl h, trivial, ?_⟩
      clear hK
      refine ⟨by kernel_rfl, ?_⟩
      clear hS9
      go_wp2_with fail
      have hm : n - ((k : Int) + 1).toNat < n - ((k : Int)).toNat := by omega
      refine ⟨⟨k + 1, ag9, cg9, _, by omega, by rw [show ((k + 1 : Nat) : Int) = (k : Int) + 1 from by omega], rfl, HM9⟩, ?_⟩
      exact hm
    · obtain rfl : k = n := by omega
      have HSU := Lib.hid (l05Sum_any ga k ca (mnR vs fs) 180 wr hn64 (by omega) HM.out.list)
      obtain ⟨x0, x1, x2, x3, x4⟩ := H0.out.1.bx.all HM.out.bel
      go_wp2_with fail
      refine HSU.out.mono ?_
      rintro e w7 ⟨sg, y1, i1, j1, y2, i2, j2, fine, p, q, N, D, rfl, hv, hND, ⟨hn1, hn2⟩, hb⟩
      obtain ⟨y0, y1', y2', y3, y4, y5, g0, g1, g2, g3, g4, g5, y6⟩ := (H0.out.2.1.all HM.out.bel).all hb
      have hlt7 : w.heap.size < wr.heap.size := (H0.out.2.1.all HM.out.bel).lt
      have HF := Lib.hid (hv.put (b := w.heap.size) (hn1.ne hlt7) (hn2.ne hlt7) (.bool sg) (.slice y1 i1 j1) (.slice y2 i2 j2) (.bool fine) (.int .i64 p) (.int .i64 q))
      have HN := Lib.hid hND
      have HNA : Hid (NewA w.heap.size y1 ∧ NewA w.heap.size y2) := Lib.hid ⟨hn1.le (by omega), hn2.le (by omega)⟩
      have HB := Lib.hid (put6_below (bthen (bthen H0.out.1.bel HM.out.bel) hb) (Nat.le_refl _) (.bool sg) (.slice y1 i1 j1) (.slice y2 i2 j2) (.bool fine) (.int .i64 p) (.int .i64 q))
      clear hv hND hn1 hn2 hb hlt7 x0 x1 x2 x3 x4
      go_wp2_with fail
      refine bodyPost_ret (v := .agg #[.bool sg, .slice y1 i1 j1, .slice y2 i2 j2, .bool fine, .int .i64 p, .int .i64 q]) (by simp [results, Try.results64, go_sem, *]) rfl ?_
      refine ⟨sg, y1, i1, j1, y2, i2, j2, fine, p, q, N, D, rfl, ?_⟩
      exact ⟨HF.out, HN.out, HNA.out, HB.out⟩
end B30
end Go.Proofs.Ytklnfhjgbmfilaa
/- The reference's mean, given back. No condition. -/
namespace Go.Proofs.Ytklnfhjgbmfilaa
open Go.RowKit
set_option linter.unusedVariables false

/-- What the functions on a law give: a fraction, and whether it is one that a fraction can say. -/
def lrV (vs fs : List Int) (n m : Nat) (r : Rat) : Value := if lawOk vs fs n m then fracV r else zeroF
theorem fracV_form' (r : Rat) : ∃ p q b, fracV r = .tuple #[.agg #[.int .i64 p, .int .i64 q], .bool b] := by unfold fracV; split <;> exact ⟨_, _, _, rfl⟩
theorem lrV_form (vs fs : List Int) (n m : Nat) (r : Rat) : ∃ p q b, lrV vs fs n m r = .tuple #[.agg #[.int .i64 p, .int .i64 q], .bool b] := by
  unfold lrV zeroF; split
  · exact fracV_form' _
  · exact ⟨_, _, _, rfl⟩
end Go.Proofs.Ytklnfhjgbmfilaa

import Derived.Test.YtlckamnadddlmaaGreatDoorPmK
import Derived.Test.YtlckamnadddlmaaGreatDoorLawE
import Derived.Test.YtlckamnadddlmaaGreatDoorPat
import Derived.Deep.CutRange
/- What the program's law of patterns keeps while it walks over its maps. No condition. -/
namespace Go.Proofs.YtlckamnadddlmaaGreatDoor
open Go.RowKit Go.Maps
set_option linter.unusedVariables false

theorem doneN_congr {S : Type} [DecidableEq S] {L : List S} {nx : S → Bool → S} {l l' : S × Bool → Bool} {q : S} (h : ∀ x, x.1 ∈ L → l x = l' x) : doneN L nx l q = doneN L nx l' q := by
  unfold doneN
  apply List.countP_congr
  intro x hx
  have hm : x.1 ∈ L := by
    unfold bothL at hx
    simp only [List.mem_append, List.mem_map] at hx
    rcases hx with ⟨y, hy, rfl⟩ | ⟨y, hy, rfl⟩ <;> exact hy
  rw [h x hm]
/-- How often a state stands in a list. -/
def ctP (L : List (List UInt8 × Nat)) (p : List UInt8 × Nat) : Nat := @List.count _ instBEqOfDecidableEq p L
/-- What is left while the bits of one state are taken. -/
def lfJ (left : Lit → Bool) (p : List UInt8 × Nat) (j : Nat) (x : (List UInt8 × Nat) × Bool) : Bool := left (plKey x.1) && !(decide (x.1 = p) && decide ((if x.2 then 1 else 0) < j))
theorem lfJ_zero (left : Lit → Bool) (p : List UInt8 × Nat) : lfJ left p 0 = lfP left := by
  funext x
  simp [lfJ, lfP]
theorem key_same {p q : List UInt8 × Nat} (hp : vP p) (hq : vP q) : (plKey p).sameKey (plKey q) = decide (p = q) := by
  by_cases h : p = q
  · subst h
    rw [decide_eq_true rfl]
    exact WideAt.sameKey_self (plKey_is p)
  · rw [decide_eq_false h]
    exact sameKey_ne (plKey_ne hp hq h)
theorem lfJ_two {left : Lit → Bool} {p : List UInt8 × Nat} (hp : vP p) (x : (List UInt8 × Nat) × Bool) (hx : vP x.1) : lfJ left p 2 x = lfP (fun z => left z && !z.sameKey (plKey p)) x := by
  unfold lfJ lfP
  show _ = (left (plKey x.1) && !(plKey x.1).sameKey (plKey p))
  rw [key_same hx hp]
  have h2 : decide ((if x.2 = true then 1 else 0) < 2) = true := by
    apply decide_eq_true
    split <;> omega
  rw [h2, Bool.and_true]
theorem lfJ_step {L : List (List UInt8 × Nat)} {nx : List UInt8 × Nat → Bool → List UInt8 × Nat} {left : Lit → Bool} {p : List UInt8 × Nat} (h : left (plKey p) = true) (q : List UInt8 × Nat) (b : Bool) :
    doneN L nx (lfJ left p ((if b then 1 else 0) + 1)) q = doneN L nx (lfJ left p (if b then 1 else 0)) q + (if nx p b = q then ctP L p else 0) := by
  refine doneN_strike L nx _ _ q p b ?_ ?_ ?_
  · unfold lfJ; simp [h]
  · unfold lfJ; simp
  · rintro ⟨y, c⟩ hne
    unfold lfJ
    by_cases hy : y = p
    · subst hy
      have hc : c ≠ b := fun e => hne (by rw [e])
      cases b <;> cases c <;> simp at hc ⊢
    · simp [hy]
/-- A map as a function. -/
def OMp (w : World) (b N : Nat) (f : List UInt8 × Nat → Nat) : Prop := ∃ D : DataW Unit, w.ownsMap Tryz.prog 56 (plainElem Tryz.prog 2) b N D ∧ MapP D f
/-- A walk over such a map. -/
def RGp (w : World) (b r N : Nat) (f : List UInt8 × Nat → Nat) (left : Lit → Bool) (cnt : Nat) : Prop := ∃ D : DataW Unit, w.ranges Tryz.prog 56 (plainElem Tryz.prog 2) b r N D left cnt ∧ MapP D f ∧ ∀ kl, left kl = true → has D kl = true
theorem Tryz.zeroI64 (w : World) : (zeroValue 2).run Tryz.prog w = .ok (.int .i64 0) w := by kernel_rfl
theorem OMp.made (w : World) : OMp (w.alloc (.map #[] 0)) w.heap.size 0 (fun _ => 0) := ⟨_, World.ownsMap_made _ _ _ _, mapP_empty⟩
theorem OMp.kept {w w' : World} {b N : Nat} {f : List UInt8 × Nat → Nat} {row : Option Nat} (h : OMp w b N f) (hg : w.grownBy w' row) (hne : some b ≠ row) : OMp w' b N f := by
  obtain ⟨D, h1, h2⟩ := h
  exact ⟨D, h1.kept hg hne, h2⟩
theorem OMp.below {w w' : World} {b N : Nat} {f : List UInt8 × Nat → Nat} (h : OMp w b N f) (hb : Below w.heap.size w w') : OMp w' b N f := by
  obtain ⟨D, ⟨es, clock, h1, h2⟩, h3⟩ := h
  exact ⟨D, ⟨es, clock, (hb.block b (lt_of_heap h1)).trans h1, h2⟩, h3⟩
theorem MapP.congr {H : Type} {D : DataW H} {f g : List UInt8 × Nat → Nat} (h2 : MapP D f) (hfg : ∀ p, f p = g p) : MapP D g :=
  ⟨h2.m, fun p hp => by rw [← hfg p]; exact h2.a p hp, fun p hp hx => h2.h p hp (by rw [hfg p]; exact hx), fun kl hk => (by obtain ⟨p, a, b, c⟩ := h2.k kl hk; exact ⟨p, a, b, by rw [← hfg p]; exact c⟩)⟩
theorem OMp.congr {w : World} {b N : Nat} {f g : List UInt8 × Nat → Nat} (h : OMp w b N f) (hfg : ∀ p, vP p → f p = g p) : OMp w b N g := by
  obtain ⟨D, h1, h2⟩ := h
  exact ⟨D, h1, h2.m, fun p hp => by rw [← hfg p hp]; exact h2.a p hp, fun p hp hx => h2.h p hp (by rw [hfg p hp]; exact hx), fun kl hk => (by obtain ⟨p, a, b, c⟩ := h2.k kl hk; exact ⟨p, a, b, by rw [← hfg p a]; exact c⟩)⟩
theorem OMp.mono {w : World} {b N N' : Nat} {f : List UInt8 × Nat → Nat} (h : OMp w b N f) (hN : N ≤ N') : OMp w b N' f := by
  obtain ⟨D, h1, h2⟩ := h
  exact ⟨D, h1.mono hN, h2⟩
theorem OMp.lt {w : World} {b N : Nat} {f : List UInt8 × Nat → Nat} (h : OMp w b N f) : b < w.heap.size := by
  obtain ⟨D, h1, _⟩ := h; exact h1.lt
theorem RGp.kept {w w' : World} {b r N cnt : Nat} {f : List UInt8 × Nat → Nat} {left : Lit → Bool} {row : Option Nat} (h : RGp w b r N f left cnt) (hg : w.grownBy w' row) (hb : some b ≠ row) (hr : some r ≠ row) : RGp w' b r N f left cnt := by
  obtain ⟨D, h1, h2⟩ := h
  exact ⟨D, h1.kept hg hb hr, h2⟩
theorem RGp.left_eq {w : World} {b r N cnt : Nat} {f : List UInt8 × Nat → Nat} {left : Lit → Bool} (h : RGp w b r N f left cnt) : w.rangeLeft b r = cnt := by
  obtain ⟨D, h1, _⟩ := h
  exact h1.left_eq
theorem stL_step {S : Type} {nx : Nat → S → Bool → S} {a : S} {k : Nat} {p : S} (h : p ∈ stL nx a k) (b : Bool) : nx k p b ∈ stL nx a (k + 1) := by
  rw [stL, List.mem_append, List.mem_map, List.mem_map]
  cases b
  · exact Or.inl ⟨p, h, rfl⟩
  · exact Or.inr ⟨p, h, rfl⟩
/-- A state as a value. -/
def plV (p : List UInt8 × Nat) : Value := .agg #[.string ⟨p.1.toArray⟩, .int .i64 (p.2 : Nat)]
theorem wf_i64 (z : Nat) (h : z < 9223372036854775808) : (Lit.int .i64 (z : Int)).wf = true := WalkArith.wf_i64 ⟨by omega, by omega⟩
theorem plV_key {p : List UInt8 × Nat} (hp : vP p) : keyOf Tryz.prog 56 (plV p) = some (plKey p) := by
  have hs : (⟨p.1.toArray⟩ : ByteArray).size ≤ maxLen := by
    have := hp.1
    show p.1.toArray.size ≤ maxLen
    simp [maxLen]
    omega
  exact keyOf_pl ⟨p.1.toArray⟩ (p.2 : Nat) hs (wf_i64 _ hp.lt)
/-- A literal of a map is stored as an update is. -/
theorem wpList_insert_own {H : Type} {P : Program} (w : World) {ops : Array Oper} {rest : List Oper} {o : Oper} {a : Act} {Q : Exit → Act → World → Prop}
    (hg : o.guard = none) (m x v : Operand) (t : TypeId) (hop : o.op = Op.insert t m x v)
    (k e : TypeId) (K : Keyed P k) (ht : P.underlying t = some (.map k e)) (R : Value → Option (DataW H × List MemPlace)) (b n : Nat) (D : DataW H)
    (hm : a.eval m = .map (some b)) (hown : w.ownsMap P k R b n D) (hn : n < maxLen) (key val : Value) (kl : Lit) (hx : a.eval x = key) (hv : a.eval v = val) (hkey : keyOf P k key = some kl)
    (d : DataW H) (ps : List MemPlace) (hval : R val = some (d, ps))
    (hK : ∀ w', w'.ownsMap P k R b (n + 1) (D.put kl d) → w.grownBy w' (some b) → wpList P ops Q rest (a.put o.dst undef) w') :
    wpList P ops Q (o :: rest) a w := by
  refine wpList_plain hg fun K' hK' => ?_
  obtain ⟨w', hrun, r1, r2⟩ := hown.update K ht hn hkey hval
  unfold Oper.wp
  simp [execOp, hop, hm, hx, hv, hrun, Result.andThen]
  exact hK' _ _ (hK w' r1 r2)
/-- What stands while the map of one round is walked over. -/
def PL2 (wA wx : World) (nx : List UInt8 × Nat → Bool → List UInt8 × Nat) (L : List (List UInt8 × Nat)) (b r b7 k : Nat) : Prop :=
  ∃ (left : Lit → Bool) (cnt N7 : Nat), N7 + 2 * cnt ≤ 2 ^ (k + 1) ∧ RGp wx b r (2 ^ k) (ctP L) left cnt ∧ OMp wx b7 N7 (doneN L nx (lfP left)) ∧ Below wA.heap.size wA wx
/-- The counts of the law. -/
def cntL (pat : List UInt8) (n : Nat) : List Int := (List.range (n + 1)).map fun v => (((stL (plNx pat) ([], 0) n).countP (fun s => s.2 == v) : Nat) : Int)
end Go.Proofs.YtlckamnadddlmaaGreatDoor

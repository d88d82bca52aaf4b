import Derived.Test.YtpineiocjaajnaaOne
/- The slices that a law makes: all its own, none shared, what each holds; the laws' helpers on such a list. -/
namespace Go.Proofs.Ytpineiocjaajnaa
open Go.RowKit
set_option linter.unusedVariables false

/-- A slice of numbers. -/
structure Sl where
  a : Option Addr
  n : Nat
  c : Nat
  zs : List Int
def Sl.v (p : Sl) : Value := .slice p.a p.n p.c

structure Lists (w : World) (B : Nat) (l : List Sl) : Prop where
  own : ∀ p, p ∈ l → w.ownsRow B 2 1 p.v p.n (p.zs.map (Value.int .i64))
  dis : l.Pairwise (fun p q => Dis p.v q.v)

theorem Lists.nil (w : World) (B : Nat) : Lists w B [] := ⟨fun p hp => absurd hp (by simp), .nil⟩
theorem Lists.below {w w' : World} {B : Nat} {l : List Sl} (h : Lists w B l) (hb : Below w.heap.size w w') : Lists w' B l := ⟨fun p hp => own_below (h.own p hp) hb, h.dis⟩
theorem Lists.join {w w1 : World} {B : Nat} {l l1 : List Sl} (h : Lists w B l) (hb : Below w.heap.size w w1) (hB : B ≤ w.heap.size) (h1 : Lists w1 w.heap.size l1) : Lists w1 B (l1 ++ l) := by
  refine ⟨fun p hp => ?_, ?_⟩
  · rcases List.mem_append.1 hp with hp | hp
    · exact own_mono (h1.own p hp) hB
    · exact own_below (h.own p hp) hb
  · rw [List.pairwise_append]
    exact ⟨h1.dis, h.dis, fun p hp q hq => dis_symm (dis_new (h.own q hq) (h1.own p hp) (Nat.le_refl _))⟩
theorem Lists.one {w : World} {B : Nat} {a : Option Addr} {n c : Nat} {zs : List Int} (h : w.ownsRow B 2 1 (.slice a n c) n (zs.map (Value.int .i64))) : Lists w B [⟨a, n, c, zs⟩] :=
  ⟨fun p hp => by rw [List.mem_singleton] at hp; subst hp; exact h, List.pairwise_singleton _ _⟩
theorem Lists.ownAt {w : World} {B : Nat} {l : List Sl} (h : Lists w B l) (i : Nat) {p : Sl} (hi : l[i]? = some p) : w.ownsRow B 2 1 (.slice p.a p.n p.c) p.n (p.zs.map (Value.int .i64)) := h.own _ (List.mem_of_getElem? hi)
theorem Lists.at {w : World} {B : Nat} {l : List Sl} (h : Lists w B l) (i : Nat) {p : Sl} (hi : l[i]? = some p) : IsInts w p.a p.n p.zs := IsInts.of_own (h.ownAt i hi)
theorem Lists.len {w : World} {B : Nat} {l : List Sl} (h : Lists w B l) (i : Nat) {p : Sl} (hi : l[i]? = some p) : p.zs.length = p.n := (h.at i hi).1

theorem Lists.write {w w' : World} {B : Nat} {l : List Sl} (h : Lists w B l) (i : Nat) {p : Sl} (hi : l[i]? = some p) {ys : List Int}
    (hown : w'.ownsRow B 2 1 (.slice p.a p.n p.c) p.n (ys.map (Value.int .i64))) (hg : w.grownBy w' (Value.ownBlock (.slice p.a p.n p.c))) : Lists w' B (l.set i ⟨p.a, p.n, p.c, ys⟩) := by
  obtain ⟨hil, hie⟩ := List.getElem?_eq_some_iff.1 hi
  have hd := List.pairwise_iff_getElem.1 h.dis
  have hv : ∀ (j : Nat) (hj : j < (l.set i ⟨p.a, p.n, p.c, ys⟩).length), ((l.set i ⟨p.a, p.n, p.c, ys⟩)[j]).v = (l[j]'(by simpa using hj)).v := by
    intro j hj
    rw [List.getElem_set]
    by_cases hji : i = j
    · subst hji; rw [if_pos rfl, hie]; rfl
    · rw [if_neg hji]
  refine ⟨fun q hq => ?_, List.pairwise_iff_getElem.2 fun j k hj hk hjk => ?_⟩
  · obtain ⟨j, hj, hje⟩ := List.mem_iff_getElem.1 hq
    have hj' : j < l.length := by simpa using hj
    rw [List.getElem_set] at hje
    by_cases hji : i = j
    · rw [if_pos hji] at hje
      subst hje
      exact hown
    · rw [if_neg hji] at hje
      subst hje
      refine own_grown (h.own _ (List.getElem_mem hj')) hg ?_
      have e : (Value.slice p.a p.n p.c) = (l[i]).v := by rw [hie]; rfl
      rw [e]
      rcases Nat.lt_or_ge i j with hlt | hge
      · exact dis_symm (hd i j hil hj' hlt)
      · exact hd j i hj' hil (by omega)
  · rw [hv, hv]
    exact hd j k (by simpa using hj) (by simpa using hk) hjk

theorem Lists.set {w : World} {B : Nat} {l : List Sl} (h : Lists w B l) (i : Nat) {g n c : Nat} {zs : List Int} (hi : l[i]? = some ⟨some ⟨g, 0, none⟩, n, c, zs⟩) (j : Nat) (u : Int) : Lists (w.setCell ⟨g, j, none⟩ (.int .i64 u)) B (l.set i ⟨some ⟨g, 0, none⟩, n, c, zs.set j u⟩) := by
  have hst := (h.ownAt i hi).stored j (.int .i64 u)
  rw [← List.map_set] at hst
  exact h.write i hi hst.1 (by simpa [Value.ownBlock] using hst.2)
theorem Lists.intAt {w : World} {B : Nat} {l : List Sl} (h : Lists w B l) (i : Nat) {g n c : Nat} {zs : List Int} (hi : l[i]? = some ⟨some ⟨g, 0, none⟩, n, c, zs⟩) (j : Nat) (hj : j < n) : w.cell? ⟨g, j, none⟩ = some (.int .i64 (zs.getD j 0)) := by
  obtain ⟨b, off, e, hc⟩ := (h.at i hi).at hj
  simp only [Option.some.injEq, Addr.mk.injEq] at e
  obtain ⟨rfl, rfl, _⟩ := e
  simpa using hc
theorem Lists.frozenAt {w : World} {B : Nat} {l : List Sl} (h : Lists w B l) (i : Nat) {g n c : Nat} {zs : List Int} (hi : l[i]? = some ⟨some ⟨g, 0, none⟩, n, c, zs⟩) (j : Nat) : w.frozen? ⟨g, j, none⟩ = false := (h.ownAt i hi).frozenAt j
theorem Lists.addr {w : World} {B : Nat} {l : List Sl} (h : Lists w B l) (i : Nat) {a : Option Addr} {n c : Nat} {zs : List Int} (hi : l[i]? = some ⟨a, n, c, zs⟩) (hn : 0 < n) : ∃ g, a = some ⟨g, 0, none⟩ := by
  rcases (h.ownAt i hi).2 with ⟨_, h0⟩ | ⟨g, _, _, e, _⟩
  · simp only at h0; omega
  · simp only [Value.slice.injEq] at e
    exact ⟨g, e.1⟩
theorem Lists.old {w : World} {B : Nat} {l : List Sl} (h : Lists w B l) (i : Nat) {g n c : Nat} {zs : List Int} (hi : l[i]? = some ⟨some ⟨g, 0, none⟩, n, c, zs⟩) : B ≤ g := ((h.ownAt i hi).lt g rfl).1

/-- The state of a law: its slices, and the memory from before as it was. -/
def At (w0 w : World) (l : List Sl) : Prop := Lists w w0.heap.size l ∧ Below w0.heap.size w0 w
theorem At.start (w : World) : At w w [] := ⟨Lists.nil _ _, Below.refl _ _⟩
theorem At.ret {w0 w w' : World} {l : List Sl} (h : At w0 w l) (hb : Below w.heap.size w w') : At w0 w' l := ⟨h.1.below hb, bthen h.2 hb⟩
theorem At.join {w0 w w' : World} {l l1 : List Sl} (h : At w0 w l) (hb : Below w.heap.size w w') (h1 : Lists w' w.heap.size l1) : At w0 w' (l1 ++ l) := ⟨h.1.join hb h.2.size h1, bthen h.2 hb⟩
theorem At.arg {w0 w : World} {l : List Sl} (h : At w0 w l) {a len zs} (hx : IsInts w0 a len zs) : IsInts w a len zs := hx.below h.2

theorem At.drewN {w0 w : World} {l : List Sl} (h : At w0 w l) (n : Nat) : At w0 (w.drewN n) l := h.ret (drewN_below _ _)
theorem At.drew {w0 w : World} {l : List Sl} (h : At w0 w l) : At w0 w.drew l := h.drewN 1
theorem At.set {w0 w : World} {l : List Sl} (h : At w0 w l) (i : Nat) {g n c : Nat} {zs : List Int} (hi : l[i]? = some ⟨some ⟨g, 0, none⟩, n, c, zs⟩) (j : Nat) (u : Int) : At w0 (w.setCell ⟨g, j, none⟩ (.int .i64 u)) (l.set i ⟨some ⟨g, 0, none⟩, n, c, zs.set j u⟩) :=
  ⟨h.1.set i hi j u, h.2.setCell (p := ⟨g, j, none⟩) (h.1.old i hi) _⟩

theorem eq_at (i j : Nat) (zs : List Int) (a a' : Option Addr) (n n' c c' : Nat) (w0 w : World) (l : List Sl) (h : At w0 w l) (hn : n < 4611686018427387904) (hi : l[i]? = some ⟨a, n, c, zs⟩) (hj : l[j]? = some ⟨a', n', c', zs⟩) :
    Calls Try.prog 10 #[.slice a n c, .slice a' n' c'] w fun e w' => e = .returned (.bool true) ∧ At w0 w' l := by
  refine (eqInt64S_any a a' n n' c c' zs zs w hn (h.1.at i hi) (h.1.at j hj)).mono ?_
  rintro e w' ⟨rfl, hb⟩
  exact ⟨by simp, h.ret hb⟩
def marksI (z : Int) (n : Nat) : List Int := marks z.toNat n
theorem mark_at (i : Nat) (zs : List Int) (a : Option Addr) (n c : Nat) (z : Int) (w0 w : World) (l : List Sl) (h : At w0 w l) (hn : n ≤ 1048576) (hz0 : 0 ≤ z) (hz : z ≤ 1152921504606846976) (hi : l[i]? = some ⟨a, n, c, zs⟩) :
    Calls Try.prog 11 #[.slice a n c, .int .i64 z] w fun e w' => e = .returned (.int .i64 (z + n)) ∧ At w0 w' (l.set i ⟨a, n, c, marksI z n⟩) := by
  obtain ⟨k0, rfl⟩ := Int.eq_ofNat_of_zero_le hz0
  have ho := h.1.ownAt i hi
  refine (markInt64S_any w0.heap.size a n c zs k0 w hn (by omega) ho).mono ?_
  rintro e w' ⟨rfl, hown, hg⟩
  exact ⟨by simp, h.1.write i hi (by simpa [marksI] using hown) hg, below_grown h.2 ho hg h.2.size⟩
theorem held_at (i : Nat) (a : Option Addr) (n c : Nat) (z : Int) (w0 w : World) (l : List Sl) (h : At w0 w l) (hn : n ≤ 1048576) (hz0 : 0 ≤ z) (hz : z ≤ 1152921504606846976) (hi : l[i]? = some ⟨a, n, c, marksI z n⟩) :
    Calls Try.prog 12 #[.slice a n c, .int .i64 z] w fun e w' => e = .returned (.int .i64 (z + n)) ∧ At w0 w' l := by
  obtain ⟨k0, rfl⟩ := Int.eq_ofNat_of_zero_le hz0
  refine (heldInt64S_any a n c _ k0 w hn (by omega) (by simp [marksI]) (h.1.at i hi)).mono ?_
  rintro e w' ⟨rfl, hb⟩
  exact ⟨by simp, h.ret hb⟩
end Go.Proofs.Ytpineiocjaajnaa

import Derived.Test.YtaneocedklnajaaGreatRows
import Derived.WalkKit
import Derived.WalkSpells
import Derived.WalkLawsBesides
import Derived.Deep.QuietTactic
import Derived.BigQuiet
import Derived.Lib.Hide
import Derived.OpenShut
/- Plain words and lemmas on worlds and slices of int64, used by all walks of this seat. -/
namespace Go.Proofs.YtaneocedklnajaaGreat
open Go.RowKit
set_option linter.unusedVariables false

/-- A number that an int64 holds. -/
def I64 (z : Int) : Prop := -9223372036854775808 ≤ z ∧ z ≤ 9223372036854775807
def I64s (zs : List Int) : Prop := ∀ z ∈ zs, I64 z

/-- In the world w a slice of len numbers at a reads as zs. -/
def IsInts (w : World) (a : Option Addr) (len : Nat) (zs : List Int) : Prop :=
  zs.length = len ∧ ∀ j, j < len → ∃ b off, a = some ⟨b, off, none⟩ ∧ w.cell? ⟨b, off + j, none⟩ = some (.int .i64 (zs.getD j 0))

theorem IsInts.length {w a len zs} (h : IsInts w a len zs) : zs.length = len := h.1

theorem IsInts.at {w a len zs} (h : IsInts w a len zs) {j : Nat} (hj : j < len) :
    ∃ b off, a = some ⟨b, off, none⟩ ∧ w.cell? ⟨b, off + j, none⟩ = some (.int .i64 (zs.getD j 0)) := h.2 j hj

theorem IsInts.drewN {w a len zs} (h : IsInts w a len zs) (n : Nat) : IsInts (w.drewN n) a len zs := h

theorem IsInts.nil {w : World} {a} : IsInts w a 0 [] := ⟨rfl, fun j hj => absurd hj (Nat.not_lt_zero j)⟩

/-- What was there when the call began still reads so behind it. -/
theorem IsInts.below {w w' : World} {a len zs} (h : IsInts w a len zs) (hb : Below w.heap.size w w') : IsInts w' a len zs := by
  refine ⟨h.1, fun j hj => ?_⟩
  obtain ⟨b, off, ha, hc⟩ := h.2 j hj
  exact ⟨b, off, ha, (hb.cell (p := ⟨b, off + j, none⟩) (World.block_lt_of_cell? w _ hc)).trans hc⟩

/-- What is owned reads. -/
theorem IsInts.of_own {w : World} {B T : Nat} {a len cap} {zs : List Int} (h : w.ownsRow B T 1 (.slice a len cap) len (zs.map (Value.int .i64))) : IsInts w a len zs := by
  refine ⟨by simpa using h.1, fun j hj => ?_⟩
  have hlen : zs.length = len := by simpa using h.1
  rcases h.2 with ⟨e, h0⟩ | ⟨g, c, cur, e, _⟩
  · omega
  · simp only [Value.slice.injEq] at e
    obtain ⟨rfl, _, rfl⟩ := e
    refine ⟨g, 0, rfl, ?_⟩
    have := h.cellAt j (by omega)
    rw [Nat.zero_add, this]
    simp [List.getD, List.getElem?_eq_getElem (show j < zs.length by omega)]

theorem drewN_below (w : World) (n : Nat) : Below w.heap.size w (w.drewN n) := ⟨rfl, rfl, rfl, Nat.le_refl _, fun _ _ => rfl⟩

theorem bthen {w w1 w2 : World} (h : Below w.heap.size w w1) (k : Below w1.heap.size w1 w2) : Below w.heap.size w w2 :=
  h.trans (k.mono h.size)

theorem grownBy_trans {a b c : World} {row : Option Nat} (h : a.grownBy b row) (k : b.grownBy c row) : a.grownBy c row :=
  ⟨k.os.trans h.os, k.tape.trans h.tape, k.output.trans h.output, Nat.le_trans h.size k.size, fun i hi hne => (k.block i (Nat.lt_of_lt_of_le hi h.size) hne).trans (h.block i hi hne)⟩
theorem grownBy_setCell (w : World) (p : Addr) (u : Value) : w.grownBy (w.setCell p u) (some p.block) :=
  ⟨rfl, rfl, rfl, by simp [World.setCell], fun k hk hne => Below.heap_setCell w p u k (fun e => hne (by rw [e]))⟩
theorem grownBy_drewN (w : World) (n : Nat) (row : Option Nat) : w.grownBy (w.drewN n) row := ⟨rfl, rfl, rfl, Nat.le_refl _, fun _ _ _ => rfl⟩

/-- What is owned stays owned while only new memory turns. -/
theorem own_below {w w' : World} {B T sz : Nat} {v : Value} {n : Nat} {xs : List Value} (h : w.ownsRow B T sz v n xs) (hb : Below w.heap.size w w') : w'.ownsRow B T sz v n xs := by
  refine ⟨h.1, ?_⟩
  rcases h.2 with h2 | ⟨g, cap, cur, hv, hB, hg, r⟩
  · exact Or.inl h2
  · have hlt : g < w.heap.size := by
      rcases Nat.lt_or_ge g w.heap.size with h | h
      · exact h
      · rw [Array.getElem?_eq_none h] at hg; cases hg
    exact Or.inr ⟨g, cap, cur, hv, hB, (hb.block g hlt).trans hg, r⟩
/-- Two slices share no memory. -/
def Dis (v v' : Value) : Prop := v.ownBlock = none ∨ v.ownBlock ≠ v'.ownBlock
theorem own_grown {w w' : World} {B T sz : Nat} {v u : Value} {n : Nat} {xs : List Value} (h : w.ownsRow B T sz v n xs) (hg : w.grownBy w' u.ownBlock) (hd : Dis v u) : w'.ownsRow B T sz v n xs :=
  h.kept hg hd
/-- A new slice shares no memory with an old one. -/
theorem dis_new {w w1 : World} {B B' T T' sz sz' : Nat} {v u : Value} {n n' : Nat} {xs xs' : List Value} (hold : w.ownsRow B T sz v n xs) (hnew : w1.ownsRow B' T' sz' u n' xs') (hB : w.heap.size ≤ B') : Dis v u := by
  cases hv : v.ownBlock with
  | none => exact Or.inl hv
  | some k =>
    right
    rw [hv]
    intro he
    have h1 := (hold.lt k hv).2
    have h2 := (hnew.lt k he.symm).1
    omega
theorem dis_symm {u v : Value} (h : Dis u v) : Dis v u := by
  unfold Dis at *
  cases hv : v.ownBlock with
  | none => exact Or.inl rfl
  | some k =>
    right
    rcases h with h | h
    · rw [h]; simp
    · rw [hv] at h; exact Ne.symm h
theorem own_mono {w : World} {B B' T sz : Nat} {v : Value} {n : Nat} {xs : List Value} (h : w.ownsRow B T sz v n xs) (hB : B' ≤ B) : w.ownsRow B' T sz v n xs := by
  refine ⟨h.1, ?_⟩
  rcases h.2 with h2 | ⟨g, cap, cur, hv, hb, r⟩
  · exact Or.inl h2
  · exact Or.inr ⟨g, cap, cur, hv, Nat.le_trans hB hb, r⟩
/-- Memory below B is as it was while a slice from B on is written. -/
theorem below_grown {w0 w w' : World} {B T sz : Nat} {v : Value} {n : Nat} {xs : List Value} (hb : Below B w0 w) (hown : w.ownsRow B T sz v n xs) (hg : w.grownBy w' v.ownBlock) (hB : B ≤ w.heap.size) : Below B w0 w' :=
  hb.grown hg hB (fun k hk => (hown.lt k hk).1)

theorem pow_lt62 (k : Nat) (h : k ≤ 62) : (2 : Nat) ^ k ≤ 4611686018427387904 := by
  have := Nat.pow_le_pow_right (show 0 < 2 by omega) h
  simpa using this
theorem wrap_in (n : Int) (h0 : -9223372036854775808 ≤ n) (h1 : n ≤ 9223372036854775807) : wrap64 n = n := IntWalk.wrap64_in n ⟨h0, h1⟩
theorem pow_wrap (k : Nat) (h : k ≤ 62) : wrap64 ((2 : Int) ^ k) = (2 : Int) ^ k := by
  have h1 := pow_lt62 k h
  have e : (2 : Int) ^ k = ((2 ^ k : Nat) : Int) := by simp
  rw [e]
  generalize (2 : Nat) ^ k = m at h1 ⊢
  exact wrap_in _ (by omega) (by omega)

theorem toNat_ofInt64 (a : Nat) (h : a < 9223372036854775808) : (BitVec.ofInt 64 (a : Int)).toNat = a := by
  rw [BitVec.ofInt_natCast, BitVec.toNat_ofNat]; exact Nat.mod_eq_of_lt (by omega)
theorem and_i64 (a b : Nat) (ha : a < 9223372036854775808) (hb : b < 9223372036854775808) : bits .and .i64 (a : Int) (b : Int) = ((a &&& b : Nat) : Int) := by
  have hx : a &&& b < 2 ^ 63 := Nat.and_lt_two_pow _ (by omega)
  show IntKind.i64.wrap ((BitVec.ofInt 64 (a : Int) &&& BitVec.ofInt 64 (b : Int)).toNat : Int) = _
  rw [BitVec.toNat_and, toNat_ofInt64 a ha, toNat_ofInt64 b hb, IntKind.wrap_i64]
  omega
theorem or_i64 (a b : Nat) (ha : a < 9223372036854775808) (hb : b < 9223372036854775808) : bits .or .i64 (a : Int) (b : Int) = ((a ||| b : Nat) : Int) := by
  have hx : a ||| b < 2 ^ 63 := Nat.or_lt_two_pow (by omega) (by omega)
  show IntKind.i64.wrap ((BitVec.ofInt 64 (a : Int) ||| BitVec.ofInt 64 (b : Int)).toNat : Int) = _
  rw [BitVec.toNat_or, toNat_ofInt64 a ha, toNat_ofInt64 b hb, IntKind.wrap_i64]
  omega
theorem xor_i64 (a b : Nat) (ha : a < 9223372036854775808) (hb : b < 9223372036854775808) : bits .xor .i64 (a : Int) (b : Int) = ((a ^^^ b : Nat) : Int) := by
  have hx : a ^^^ b < 2 ^ 63 := Nat.xor_lt_two_pow (by omega) (by omega)
  show IntKind.i64.wrap ((BitVec.ofInt 64 (a : Int) ^^^ BitVec.ofInt 64 (b : Int)).toNat : Int) = _
  rw [BitVec.toNat_xor, toNat_ofInt64 a ha, toNat_ofInt64 b hb, IntKind.wrap_i64]
  omega

/-- An argument as the row hands it over, read as a list. -/
theorem isInts_of_row {w : World} {a : Option Addr} {len cap : Nat} {zs : List Int}
    (h : (a = none ∧ len = 0 ∧ cap = 0 ∧ zs = []) ∨ ∃ x, a = some x ∧ len ≤ cap ∧ cap ≤ maxLen ∧ zs.length = cap ∧ (∀ i, i < zs.length → w.cell? (x.add i) = some (.int .i64 (zs.getD i 0))) ∧ ∀ n ∈ zs, (Lit.int .i64 n).wf = true) :
    IsInts w a len (zs.take len) ∧ I64s (zs.take len) := by
  rcases h with ⟨rfl, rfl, _, rfl⟩ | ⟨x, rfl, hl, hm, hz, hc, hw⟩
  · exact ⟨⟨rfl, fun j hj => absurd hj (Nat.not_lt_zero j)⟩, fun z hz => by simp at hz⟩
  · refine ⟨⟨by simp; omega, fun j hj => ?_⟩, fun z hzm => ?_⟩
    · have h0 := hc 0 (by omega)
      have hsp : x.spot = none := by
        cases hs : x.spot with
        | none => rfl
        | some s =>
          have : x.add 0 = x := by simp [Addr.add]
          rw [this] at h0
          simp only [World.cell?, hs, Option.isSome_some, if_true] at h0
          split at h0 <;> simp_all
      have hj' := hc j (by omega)
      obtain ⟨b, off, sp⟩ := x
      simp only at hsp
      subst hsp
      refine ⟨b, off, rfl, ?_⟩
      have hadd : (⟨b, off, none⟩ : Addr).add j = ⟨b, off + j, none⟩ := by
        unfold Addr.add; split
        · rename_i h; subst h; rfl
        · rfl
      rw [hadd] at hj'
      rw [hj']
      simp [List.getD, hj]
    · have := hw z (List.mem_of_mem_take hzm)
      have := bounds_i64 this
      exact ⟨by omega, by omega⟩

theorem bthen' {w w1 w2 : World} (h : Below w.heap.size w w1) (k : Below w1.heap.size w1 w2) : Below w.heap.size w w2 := h.trans (k.mono h.size)

theorem getD_eq (zs : List Int) (k : Nat) (h : k < zs.length) : zs.getD k 0 = zs[k] := by simp [List.getD, h]
theorem take_snoc (zs : List Int) (k : Nat) (h : k < zs.length) : zs.take (k + 1) = zs.take k ++ [zs.getD k 0] := by
  rw [List.take_succ_eq_append_getElem h, getD_eq zs k h]
theorem ext_getD {xs ys : List Int} (hl : xs.length = ys.length) (h : ∀ j, j < xs.length → xs.getD j 0 = ys.getD j 0) : xs = ys := by
  apply List.ext_getElem hl
  intro i h1 h2
  have := h i h1
  rwa [getD_eq _ _ h1, getD_eq _ _ h2] at this

theorem I64s.getD {zs : List Int} (h : I64s zs) (k : Nat) : I64 (zs.getD k 0) := by
  by_cases hk : k < zs.length
  · rw [getD_eq _ _ hk]; exact h _ (List.getElem_mem hk)
  · simp [List.getD, List.getElem?_eq_none (Nat.le_of_not_lt hk), I64]

/-- A call's answer: one value, the old memory as it was. -/
def Ret (w : World) (v : Value) (e : Ending) (w' : World) : Prop := e = .returned v ∧ Below w.heap.size w w'
/-- A call's answer: a new slice of its own. -/
def RetInts (w : World) (zs : List Int) (e : Ending) (w' : World) : Prop :=
  ∃ a cap, e = .returned (.slice a zs.length cap) ∧ w'.ownsRow w.heap.size 2 1 (.slice a zs.length cap) zs.length (zs.map (Value.int .i64)) ∧ Below w.heap.size w w'

theorem Tryz.infoI : (Tryz.prog.info? 2).map (fun i => (i.zero, i.size, i.bytes)) = some (some (.int .i64 0), 1, 8) := by kernel_rfl

theorem Tryz.infoB : (Tryz.prog.info? 4).map (fun i => (i.zero, i.size, i.bytes)) = some (some (.bool false), 1, 1) := by kernel_rfl

end Go.Proofs.YtaneocedklnajaaGreat

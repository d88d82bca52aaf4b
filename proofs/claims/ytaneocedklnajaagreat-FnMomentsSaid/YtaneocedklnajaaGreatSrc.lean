import Derived.Test.YtaneocedklnajaaGreatOne
import Derived.Test.YtaneocedklnajaaGreatOwnX
import Derived.BigRegion
import Derived.Deep.RegionLaw
import Derived.Deep.RegionLawGrows
/- The reference's source of drawn numbers: what is read from it is small and never negative. -/
namespace Go.Proofs.YtaneocedklnajaaGreat
open Go.RowKit
set_option linter.unusedVariables false

/-- In the world w a slice of len bytes at a reads as zs. -/
def IsU8s (w : World) (a : Option Addr) (len : Nat) (zs : List Int) : Prop :=
  zs.length = len ∧ (∀ j, j < len → ∃ b off, a = some ⟨b, off, none⟩ ∧ w.cell? ⟨b, off + j, none⟩ = some (.int .u8 (zs.getD j 0))) ∧ ∀ z ∈ zs, 0 ≤ z ∧ z ≤ 255
theorem IsU8s.at {w a len zs} (h : IsU8s w a len zs) {j : Nat} (hj : j < len) :
    ∃ b off, a = some ⟨b, off, none⟩ ∧ w.cell? ⟨b, off + j, none⟩ = some (.int .u8 (zs.getD j 0)) := h.2.1 j hj
theorem IsU8s.bd {w a len zs} (h : IsU8s w a len zs) (j : Nat) : 0 ≤ zs.getD j 0 ∧ zs.getD j 0 ≤ 255 := by
  by_cases hj : j < zs.length
  · rw [getD_eq _ _ hj]; exact h.2.2 _ (List.getElem_mem hj)
  · simp [List.getD, List.getElem?_eq_none (Nat.le_of_not_lt hj)]
theorem IsU8s.below {w w' : World} {a len zs} (h : IsU8s w a len zs) (hb : Below w.heap.size w w') : IsU8s w' a len zs := by
  refine ⟨h.1, fun j hj => ?_, h.2.2⟩
  obtain ⟨b, off, ha, hc⟩ := h.2.1 j hj
  exact ⟨b, off, ha, (hb.cell (p := ⟨b, off + j, none⟩) (World.block_lt_of_cell? w _ hc)).trans hc⟩
/-- An argument of bytes as the row hands it over, read as a list. -/
theorem isU8s_of_row {w : World} {a : Option Addr} {len cap : Nat} {zs : List Int}
    (h : (a = none ∧ len = 0 ∧ cap = 0 ∧ zs = []) ∨ ∃ x, a = some x ∧ len ≤ cap ∧ cap ≤ maxLen ∧ zs.length = cap ∧ (∀ i, i < zs.length → w.cell? (x.add i) = some (.int .u8 (zs.getD i 0))) ∧ ∀ n ∈ zs, (Lit.int .u8 n).wf = true) :
    IsU8s w a len (zs.take len) := by
  rcases h with ⟨rfl, rfl, _, rfl⟩ | ⟨x, rfl, hl, hm, hz, hc, hw⟩
  · exact ⟨rfl, fun j hj => absurd hj (Nat.not_lt_zero j), fun z hz => by simp at hz⟩
  · refine ⟨by simp; omega, fun j hj => ?_, fun z hzm => ?_⟩
    · have h0 := hc 0 (by omega)
      have hsp : x.spot = none := by
        cases hs : x.spot with
        | none => rfl
        | some s =>
          have : x.add 0 = x := by simp [Addr.add]
          rw [this] at h0
          simp only [World.cell?, hs, Option.isSome_some, if_true] at h0
          split at h0 <;> simp_all
      have hj' := hc j (by omega)
      obtain ⟨b, off, sp⟩ := x
      simp only at hsp
      subst hsp
      refine ⟨b, off, rfl, ?_⟩
      have hadd : (⟨b, off, none⟩ : Addr).add j = ⟨b, off + j, none⟩ := by
        unfold Addr.add; split
        · rename_i h; subst h; rfl
        · rfl
      rw [hadd] at hj'
      rw [hj']
      simp [List.getD, hj]
    · have := hw z (List.mem_of_mem_take hzm)
      have := bounds_u8 this
      exact ⟨by omega, by omega⟩

/-- What a call owns, and the memory from before as it was. -/
def OwnAt (w0 w : World) (l : List (Nat × (Obj → Prop))) : Prop := Owns w w0.heap.size l ∧ Below w0.heap.size w0 w
theorem OwnAt.start (w : World) : OwnAt w w [] := ⟨Owns.nil _ _, Below.refl _ _⟩
theorem OwnAt.ret {w0 w w' : World} {l : List (Nat × (Obj → Prop))} (h : OwnAt w0 w l) (hb : Below w.heap.size w w') : OwnAt w0 w' l := ⟨h.1.below hb, bthen h.2 hb⟩
theorem OwnAt.new {w0 w : World} {l : List (Nat × (Obj → Prop))} (h : OwnAt w0 w l) {o : Obj} {φ : Obj → Prop} (hφ : φ o) : OwnAt w0 (w.alloc o) ((w.heap.size, φ) :: l) := ⟨h.1.new h.2.size hφ, h.2.alloc h.2.size o⟩
theorem OwnAt.drewN {w0 w : World} {l : List (Nat × (Obj → Prop))} (h : OwnAt w0 w l) (n : Nat) : OwnAt w0 (w.drewN n) l := h.ret (drewN_below _ _)

/-- The source's block: its bytes, how many were read. -/
def srcO (a : Option Addr) (len cap : Nat) (t : Nat) (o : Obj) : Prop := ∃ s : Int, o = .cells #[.slice a len cap, .int .i64 (t : Nat), .int .u64 s] 114 (0, 0)

theorem and255 (x : Int) : 0 ≤ bits .and .u64 x 255 ∧ bits .and .u64 x 255 ≤ 255 := by
  show 0 ≤ IntKind.u64.wrap ((BitVec.ofInt 64 x &&& BitVec.ofInt 64 255).toNat : Int) ∧ IntKind.u64.wrap ((BitVec.ofInt 64 x &&& BitVec.ofInt 64 255).toNat : Int) ≤ 255
  have h : (BitVec.ofInt 64 x &&& BitVec.ofInt 64 255).toNat ≤ 255 := by
    rw [BitVec.toNat_and]
    exact Nat.and_le_right
  generalize (BitVec.ofInt 64 x &&& BitVec.ofInt 64 255).toNat = m at h
  have e : IntKind.u64.wrap (m : Int) = (m : Int) := by
    rw [IntKind.wrap_u64]; omega
  rw [e]; omega

theorem and255w (x : Int) : 0 ≤ wrap64 (bits .and .u64 x 255) ∧ wrap64 (bits .and .u64 x 255) ≤ 255 := by
  have := and255 x
  rw [wrap_in _ (by omega) (by omega)]
  exact this

set_option maxHeartbeats 800000 in
theorem srcNext_any (i : Nat) (b : Nat) (a : Option Addr) (len cap t : Nat) (zs : List Int) (w0 w : World) (l : List (Nat × (Obj → Prop))) (h : OwnAt w0 w l) (hi : l[i]? = some (b, srcO a len cap t)) (hx : IsU8s w0 a len zs) (ht : t < 1000000000) (hl : len < 1000000000) :
    Calls Tryz.prog 121 #[.pointer (some ⟨b, 0, none⟩)] w fun e w' => ∃ x, e = .returned (.int .i64 x) ∧ 0 ≤ x ∧ x ≤ 255 ∧ OwnAt w0 w' (l.set i (b, srcO a len cap (t + 1))) := by
  have hxw := hx.below h.2
  obtain ⟨hB, o, ho, s, rfl⟩ := h.1.holds _ (List.mem_of_getElem? hi)
  simp only at hB ho
  have q0 : w.cell? ⟨b, 0, none⟩ = some (.slice a len cap) := by simp [World.cell?, ho]
  have q1 : w.cell? ⟨b, 1, none⟩ = some (.int .i64 (t : Nat)) := by simp [World.cell?, ho]
  have q2 : w.cell? ⟨b, 2, none⟩ = some (.int .u64 s) := by simp [World.cell?, ho]
  have f1 : w.frozen? ⟨b, 1, none⟩ = false := by simp [World.frozen?, ho]
  have f2 : w.frozen? ⟨b, 2, none⟩ = false := by simp [World.frozen?, ho]
  have key : ∀ (u v : Value) (s' : Int), v = .int .u64 s' → u = .int .i64 ((t : Int) + 1) → ∀ q q', OwnAt w0 ((((w.drewN q).setCell ⟨b, 1, none⟩ u).setCell ⟨b, 2, none⟩ v).drewN q') (l.set i (b, srcO a len cap (t + 1))) := by
    rintro u v s' rfl rfl q q'
    have hg : w.grownBy (((w.drewN q).setCell ⟨b, 1, none⟩ (.int .i64 ((t : Int) + 1))).setCell ⟨b, 2, none⟩ (.int .u64 s')) (some b) := grownBy_trans (grownBy_trans (grownBy_drewN w q _) (grownBy_setCell _ ⟨b, 1, none⟩ _)) (grownBy_setCell _ ⟨b, 2, none⟩ _)
    have e1 := heap_setCell_same (w.drewN q) b 1 _ 114 (.int .i64 ((t : Int) + 1)) ho
    have e2 := heap_setCell_same _ b 2 _ 114 (.int .u64 s') e1
    refine ⟨(h.1.upd hi hg (Or.inl rfl) hB e2 ⟨s', by simp⟩).drewN q', ?_⟩
    have hgb := h.2.grown hg h.2.size (fun j hj => by simp at hj; omega)
    exact hgb.trans ((drewN_below _ q').mono hgb.size)
  have Key := Lib.hid key
  clear key h hi ho hB
  by_cases hlt : t < len
  · obtain ⟨bb, off, ha, h1⟩ := hxw.at hlt
    subst ha
    have hbd := hx.bd t
    obtain ⟨x, hxe⟩ : ∃ x, zs.getD t 0 = x := ⟨_, rfl⟩
    rw [hxe] at h1 hbd
    clear hxe hx hxw
    have k0 : (0:Int) ≤ (t:Int) := by omega
    have k1 : (t:Int) < (len:Int) := by omega
    have k2 : (t:Int) + 1 ≤ (len:Int) := by omega
    go_enter Tryz.func121, Tryz.ntmps121
    go_wp2
    go_quiet (fail)
    go_wp2
    go_quiet (fail)
    go_wp2
    go_quiet (fail)
    go_wp2
    go_ret
    exact ⟨x, rfl, hbd.1, hbd.2, Key.out _ _ _ rfl rfl _ _⟩
  · clear hx hxw
    have k1 : ¬ (t:Int) < (len:Int) := by omega
    have k2 : ¬ (t:Int) + 1 ≤ (len:Int) := by omega
    go_enter Tryz.func121, Tryz.ntmps121
    go_wp2
    go_quiet (fail)
    go_wp2
    go_quiet (fail)
    go_wp2
    go_ret
    exact ⟨_, rfl, (and255w _).1, (and255w _).2, Key.out _ _ _ rfl rfl _ _⟩

theorem srcSet {w0 w : World} {l : List (Nat × (Obj → Prop))} {i b : Nat} {φ : Obj → Prop} (h : OwnAt w0 w l) (hi : l[i]? = some (b, φ)) : OwnAt w0 w (l.set i (b, φ)) := by
  obtain ⟨h1, h2⟩ := List.getElem?_eq_some_iff.1 hi
  have e : l.set i (b, φ) = l := by rw [← h2]; exact List.set_getElem_self h1
  rw [e]; exact h

set_option maxHeartbeats 800000 in
theorem srcPick_any (i : Nat) (n : Int) (b : Nat) (a : Option Addr) (len cap t : Nat) (zs : List Int) (w0 w : World) (l : List (Nat × (Obj → Prop))) (h : OwnAt w0 w l) (hi : l[i]? = some (b, srcO a len cap t)) (hx : IsU8s w0 a len zs) (ht : t < 900000000) (hl : len < 1000000000) (hn : n ≤ 1000000000000000000) :
    Calls Tryz.prog 84 #[.pointer (some ⟨b, 0, none⟩), .int .i64 n] w fun e w' => ∃ x t', e = .returned (.int .i64 x) ∧ 0 ≤ x ∧ (x < n ∨ x = 0) ∧ t ≤ t' ∧ t' ≤ t + 2 ∧ OwnAt w0 w' (l.set i (b, srcO a len cap t')) := by
  have hil := (List.getElem?_eq_some_iff.1 hi).1
  by_cases h1 : n ≤ 1
  · have H := Lib.hid (srcSet h hi)
    clear h hi hx
    go_enter Tryz.func84, Tryz.ntmps84
    go_wp2
    go_ret
    exact ⟨0, t, rfl, by omega, Or.inr rfl, by omega, by omega, H.out⟩
  · have hrem : ∀ x : Int, 0 ≤ x % n ∧ x % n < n := fun x =>
       ⟨Int.emod_nonneg _ (by omega), Int.emod_lt_of_pos _ (by omega)⟩
    have Hr := Lib.hid hrem
    have H := Lib.hid h
    have Hi := Lib.hid hi
    have Hx := Lib.hid hx
    have n0 : ¬ n = 0 := by omega
    have n1 : ¬ n = -1 := by omega
    clear h hi hx hrem
    by_cases h2 : 200 < n
    · go_enter Tryz.func84, Tryz.ntmps84
      go_wp2_with fail
      refine (srcNext_any i b a len cap t zs w0 w l H.out Hi.out Hx.out (by omega) hl).mono ?_
      rintro e w1 ⟨x, rfl, hx0, hx1, h1⟩
      have H1 := Lib.hid h1
      clear h1
      go_wp2_with fail
      refine (srcNext_any i b a len cap (t + 1) zs w0 w1 _ H1.out (by rw [List.getElem?_set_self hil]) Hx.out (by omega) hl).mono ?_
      rintro e w2 ⟨y, rfl, hy0, hy1, h2⟩
      have H2 := Lib.hid h2
      clear h2
      go_wp2_with fail
      go_ret
      refine ⟨_, t + 1 + 1, rfl, (Hr.out _).1, Or.inl (Hr.out _).2, by omega, by omega, ?_⟩
      have := H2.out
      rwa [List.set_set] at this
    · go_enter Tryz.func84, Tryz.ntmps84
      go_wp2_with fail
      refine (srcNext_any i b a len cap t zs w0 w l H.out Hi.out Hx.out (by omega) hl).mono ?_
      rintro e w1 ⟨x, rfl, hx0, hx1, h1⟩
      have H1 := Lib.hid h1
      clear h1
      go_wp2_with fail
      go_ret
      exact ⟨_, t + 1, rfl, (Hr.out _).1, Or.inl (Hr.out _).2, by omega, by omega, H1.out⟩

theorem srcFrom_any (a : Option Addr) (len cap : Nat) (w : World) :
    Calls Tryz.prog 44 #[.slice a len cap] w fun e w' => e = .returned (.pointer (some ⟨w.heap.size, 0, none⟩)) ∧ w' = w.alloc (.cells #[.slice a len cap, .int .i64 0, .int .u64 0] 114) := by
  go_enter Tryz.func44, Tryz.ntmps44
  go_wp2
  go_ret
  exact ⟨rfl, rfl⟩
theorem srcO_new (a : Option Addr) (len cap : Nat) : srcO a len cap 0 (.cells #[.slice a len cap, .int .i64 0, .int .u64 0] 114) := ⟨0, rfl⟩
end Go.Proofs.YtaneocedklnajaaGreat

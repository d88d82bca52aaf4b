import Derived.Test.YtklnfhjgbmfilaaLawQ
/- Lists of fractions: the program's tests of all of them. No condition. -/
namespace Go.Proofs.Ytklnfhjgbmfilaa
open Go.RowKit
set_option linter.unusedVariables false

def firstB (q : Nat → Bool) (n : Nat) : Int := match (List.range n).find? q with | some i => (i : Int) | none => -1
theorem find_first {q : Nat → Bool} {n k : Nat} (hk : k < n) (hq : q k = true) (hall : ∀ j, j < k → q j = false) : (List.range n).find? q = some k := by
  rw [show n = k + 1 + (n - (k + 1)) by omega, List.range_add, List.range_succ, List.append_assoc, List.find?_append]
  have : (List.range k).find? q = none := by
    rw [List.find?_eq_none]
    intro x hx
    simp [hall x (List.mem_range.1 hx)]
  rw [this]
  simp [hq]
theorem find_nothing {q : Nat → Bool} {n : Nat} (hall : ∀ j, j < n → q j = false) : (List.range n).find? q = none := by
  rw [List.find?_eq_none]
  intro x hx
  simp [hall x (List.mem_range.1 hx)]
theorem firstB_some {q : Nat → Bool} {n k : Nat} (hk : k < n) (hq : q k = true) (hall : ∀ j, j < k → q j = false) : firstB q n = (k : Int) := by
  unfold firstB; rw [find_first hk hq hall]
theorem firstB_none {q : Nat → Bool} {n : Nat} (hall : ∀ j, j < n → q j = false) : firstB q n = -1 := by
  unfold firstB; rw [find_nothing hall]
theorem firstB_any (q : Nat → Bool) (n : Nat) : decide (0 ≤ firstB q n) = (List.range n).any q := by
  unfold firstB
  cases h : (List.range n).find? q with
  | none =>
    rw [List.find?_eq_none] at h
    have : (List.range n).any q = false := by
      rw [List.any_eq_false]; intro x hx; exact h x hx
    rw [this]; rfl
  | some i =>
    have h1 := List.find?_some h
    have h2 := List.mem_of_find?_eq_some h
    have : (List.range n).any q = true := by rw [List.any_eq_true]; exact ⟨i, h2, h1⟩
    rw [this]
    simp
theorem any_not (p : Nat → Bool) (n : Nat) : (!(List.range n).any fun k => !p k) = (List.range n).all p := by
  induction n with
  | zero => rfl
  | succ n ih =>
    rw [List.range_succ, List.any_append, List.all_append, Bool.not_or, ih]
    simp
/-- A fraction of a list that is read. -/
theorem fr_at {w : World} {a : Option Addr} {n : Nat} {fs : List Int} (hx : IsInts w a (n * 2) fs) {k : Nat} (hk : k < n) :
    ∃ b off, a = some ⟨b, off, none⟩ ∧ w.cell? ⟨b, off + k * 2, none⟩ = some (.int .i64 (frN fs k)) ∧ w.cell? ⟨b, off + k * 2 + 1, none⟩ = some (.int .i64 (frD fs k)) := by
  obtain ⟨b, off, rfl, c1⟩ := hx.at (show k * 2 < n * 2 by omega)
  obtain ⟨b1, off1, e1, c2⟩ := hx.at (show k * 2 + 1 < n * 2 by omega)
  simp only [Option.some.injEq, Addr.mk.injEq] at e1
  obtain ⟨rfl, rfl, _⟩ := e1
  rw [← Nat.add_assoc] at c2
  exact ⟨b, off, rfl, c1, c2⟩
theorem areFr1_any (n d : Int) (w : World) : Calls Try.prog 105 #[.agg #[.int .i64 n, .int .i64 d]] w (Ret w (.bool (!vF n d))) := by
  have HA := Lib.hid ((Below.refl _ w).alloc (Nat.le_refl _) (.cells #[.int .i64 n, .int .i64 d] 33))
  have HV := Lib.hid (fun w => validFraction_any n d w)
  obtain ⟨v, hv⟩ : ∃ v, vF n d = v := ⟨_, rfl⟩
  rw [hv] at HV ⊢
  clear hv
  go_enter Try.func105, Try.ntmps105
  go_wp2_with fail
  refine (HV.out _).mono ?_
  rintro e w1 ⟨rfl, hb1⟩
  have H1 := Lib.hid (bthen HA.out hb1)
  clear hb1
  go_wp2
  go_ret
  exact ⟨rfl, H1.out⟩
theorem validLaw1_any (n d : Int) (w : World) : Calls Try.prog 56 #[.agg #[.int .i64 n, .int .i64 d]] w (Ret w (.bool (decide (n ≤ 0)))) := by
  have HA := Lib.hid ((Below.refl _ w).alloc (Nat.le_refl _) (.cells #[.int .i64 n, .int .i64 d] 33))
  go_enter Try.func56, Try.ntmps56
  go_wp2
  go_ret
  exact ⟨rfl, HA.out⟩
set_option maxRecDepth 20000 in
set_option maxHeartbeats 800000 in
theorem indexFuncF_any (c : Nat) (p : Int → Int → Bool) (hf : ∀ args w, Sem.run Try.prog (callFunc c args) w = .ok (.enter c args) w) (hc : ∀ n d w, Calls Try.prog c #[.agg #[.int .i64 n, .int .i64 d]] w (Ret w (.bool (p n d)))) (a : Option Addr) (len cap : Nat) (fs : List Int) (w : World) (hb : len ≤ 1048576) (hx : IsInts w a (len * 2) fs) :
    Calls Try.prog 107 #[.slice a len cap, .func (.func c) #[] #[]] w (Ret w (.int .i64 (firstB (fun k => p (frN fs k) (frD fs k)) len))) := by
  have HX := Lib.hid hx
  have HC := Lib.hid hc
  have HF := Lib.hid hf
  clear hx hc hf
  go_enter Try.func107, Try.ntmps107
  go_wp2
  go_loopw [8] (fun i wr => ∃ k : Nat, k ≤ len ∧ i = .int .i64 (k : Nat) ∧ Hid (∀ j, j < k → p (frN fs j) (frD fs j) = false) ∧ Hid (Below w.heap.size w wr)) (fun i _ => len - (intOf i).toNat)
  case atStart => exact ⟨0, Nat.zero_le _, rfl, Lib.hid (fun j hj => by omega), Lib.hid (Below.refl _ _)⟩
  case round =>
    obtain ⟨k, hk, rfl, Hall, HB⟩ := hrel
    by_cases hlt : k < len
    · obtain ⟨b, off, rfl, c1, c2⟩ := fr_at (HX.out.below HB.out) hlt
      have hk0 : (0:Int) ≤ (k:Int) := by omega
      have hkl : (k:Int) < (len:Int) := by omega
      have HP := Lib.hid (HC.out (frN fs k) (frD fs k) wr)
      obtain ⟨x, hxx⟩ : ∃ x, frN fs k = x := ⟨_, rfl⟩
      obtain ⟨y, hyy⟩ : ∃ y, frD fs k = y := ⟨_, rfl⟩
      rw [hxx, hyy] at HP
      rw [hxx] at c1
      rw [hyy] at c2
      have HE := Lib.hid (And.intro hxx hyy)
      clear hxx hyy
      cases hin : p x y with
      | false =>
        rw [hin] at HP
        have Hin := Lib.hid hin
        clear hin
        go_wp2_with fail
        rw [HF.out, Oper.upon_enter]
        refine HP.out.mono ?_
        rintro e w1 ⟨rfl, hb1⟩
        have HB1 := Lib.hid (bthen HB.out hb1)
        clear hb1 c1 c2
        go_wp2
        go_roundw
        case rel =>
          refine ⟨k + 1, by omega, by go_num, Lib.hid (fun j hj => ?_), HB1⟩
          by_cases h : j = k
          · subst h; rw [HE.out.1, HE.out.2]; exact Hin.out
          · exact Hall.out j (by omega)
        case measure => simp [intOf]; omega
      | true =>
        rw [hin] at HP
        have Hin := Lib.hid hin
        clear hin
        go_wp2_with fail
        rw [HF.out, Oper.upon_enter]
        refine HP.out.mono ?_
        rintro e w1 ⟨rfl, hb1⟩
        have HB1 := Lib.hid (bthen HB.out hb1)
        clear hb1 c1 c2
        go_wp2
        go_ret
        refine ⟨?_, HB1.out⟩
        rw [firstB_some hlt (by rw [HE.out.1, HE.out.2]; exact Hin.out) Hall.out]
        try rfl
    · obtain rfl : k = len := by omega
      go_wp2
      go_ret
      refine ⟨?_, HB.out⟩
      rw [firstB_none Hall.out]
      rfl
theorem containsFuncF_any (c : Nat) (p : Int → Int → Bool) (hf : ∀ args w, Sem.run Try.prog (callFunc c args) w = .ok (.enter c args) w) (hc : ∀ n d w, Calls Try.prog c #[.agg #[.int .i64 n, .int .i64 d]] w (Ret w (.bool (p n d)))) (a : Option Addr) (len cap : Nat) (fs : List Int) (w : World) (hb : len ≤ 1048576) (hx : IsInts w a (len * 2) fs) :
    Calls Try.prog 55 #[.slice a len cap, .func (.func c) #[] #[]] w (Ret w (.bool ((List.range len).any fun k => p (frN fs k) (frD fs k)))) := by
  have H := Lib.hid (indexFuncF_any c p hf hc a len cap fs w hb hx)
  have HF := Lib.hid (firstB_any (fun k => p (frN fs k) (frD fs k)) len)
  obtain ⟨z, hz⟩ : ∃ z, firstB (fun k => p (frN fs k) (frD fs k)) len = z := ⟨_, rfl⟩
  rw [hz] at H HF
  obtain ⟨v, hv⟩ : ∃ v, ((List.range len).any fun k => p (frN fs k) (frD fs k)) = v := ⟨_, rfl⟩
  rw [hv] at HF ⊢
  clear hz hv hx hc hf
  go_enter Try.func55, Try.ntmps55
  go_wp2_with fail
  refine H.out.mono ?_
  rintro e w1 ⟨rfl, hb1⟩
  have HB1 := Lib.hid hb1
  clear hb1
  go_wp2
  go_ret
  exact ⟨by rw [HF.out]; rfl, HB1.out⟩
theorem areFractions_any (a : Option Addr) (len cap : Nat) (fs : List Int) (w : World) (hb : len ≤ 1048576) (hx : IsInts w a (len * 2) fs) :
    Calls Try.prog 54 #[.slice a len cap] w (Ret w (.bool (allVF fs len))) := by
  have H := Lib.hid (containsFuncF_any 105 (fun n d => !vF n d) (fun _ _ => by kernel_rfl) areFr1_any a len cap fs w hb hx)
  have HV := Lib.hid (any_not (fun k => vF (frN fs k) (frD fs k)) len)
  obtain ⟨v, hv⟩ : ∃ v, ((List.range len).any fun k => !vF (frN fs k) (frD fs k)) = v := ⟨_, rfl⟩
  rw [hv] at H HV
  clear hv hx
  go_enter Try.func54, Try.ntmps54
  go_wp2_with fail
  refine H.out.mono ?_
  rintro e w1 ⟨rfl, hb1⟩
  have HB1 := Lib.hid hb1
  clear hb1
  go_wp2
  go_ret
  exact ⟨by unfold allVF; rw [← HV.out]; rfl, HB1.out⟩
end Go.Proofs.Ytklnfhjgbmfilaa

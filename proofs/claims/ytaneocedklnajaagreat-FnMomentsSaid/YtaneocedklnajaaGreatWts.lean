import Derived.Test.YtaneocedklnajaaGreatOne
/- Weights: sums, ranges of all numbers of a list, and when weights are dyadic, in the program and in the reference. -/
namespace Go.Proofs.YtaneocedklnajaaGreat
open Go.RowKit
set_option linter.unusedVariables false

def firstOut (zs : List Int) (lo hi : Int) : Int := match zs.findIdx? (fun z => !inR z lo hi) with | some i => (i : Int) | none => -1
def allR (zs : List Int) (lo hi : Int) : Bool := zs.all (fun z => inR z lo hi)

theorem firstOut_neg (zs : List Int) (lo hi : Int) : decide ((0:Int) ≤ firstOut zs lo hi) = !allR zs lo hi := by
  unfold firstOut
  cases h : zs.findIdx? (fun z => !inR z lo hi) with
  | none =>
    rw [List.findIdx?_eq_none_iff] at h
    have : allR zs lo hi = true := by
      unfold allR; rw [List.all_eq_true]; intro x hx; simpa using h x hx
    simp [this]
  | some i =>
    have h2 := List.findIdx?_eq_some_iff_getElem.1 h
    obtain ⟨hi', hp, _⟩ := h2
    have : allR zs lo hi = false := by
      unfold allR; rw [List.all_eq_false]; exact ⟨zs[i], List.getElem_mem hi', by simpa using hp⟩
    simp only [this]
    simp

theorem allInLit_any (n lo hi : Int) (p q : Addr) (w : World) (hp : w.cell? p = some (.int .i64 lo)) (hq : w.cell? q = some (.int .i64 hi)) :
    Calls Tryz.prog 95 #[.int .i64 n, .pointer (some p), .pointer (some q)] w fun e w' => e = .returned (.bool (!inR n lo hi)) ∧ w = w' := by
  go_enter Tryz.func95, Tryz.ntmps95
  go_wp2_with (go_at_call 54; refine (inRange_any _ _ _ _).mono ?_; rintro e w' ⟨rfl, rfl⟩)
  go_ret
  exact ⟨rfl, rfl⟩

set_option maxHeartbeats 400000 in
theorem indexFuncR_any (a : Option Addr) (len cap : Nat) (zs : List Int) (lo hi : Int) (p q : Addr) (w : World) (hb : len < 4611686018427387904) (hx : IsInts w a len zs) (hp : w.cell? p = some (.int .i64 lo)) (hq : w.cell? q = some (.int .i64 hi)) :
    Calls Tryz.prog 128 #[.slice a len cap, .func (.func 95) #[] #[.pointer (some p), .pointer (some q)]] w fun e w' => e = .returned (.int .i64 (firstOut zs lo hi)) ∧ w = w' := by
  go_enter Tryz.func128, Tryz.ntmps128
  go_wp2
  go_loop [8] (fun i => ∃ k : Nat, k ≤ len ∧ i = .int .i64 k ∧ (∀ j, j < k → inR (zs.getD j 0) lo hi = true)) (fun i => len - (intOf i).toNat)
  case atStart => exact ⟨0, Nat.zero_le _, rfl, by omega⟩
  case round =>
    obtain ⟨k, hk, rfl, hall⟩ := hrel
    have Hall := Lib.hid hall
    clear hall
    by_cases hlt : k < len
    · obtain ⟨b, off, ha, h1⟩ := hx.at hlt
      subst ha
      have hk0 : (0:Int) ≤ (k:Int) := by omega
      have hkl : (k:Int) < (len:Int) := by omega
      cases hin : inR (zs.getD k 0) lo hi with
      | true =>
        have Hin := Lib.hid hin
        have hin' : (!inR (zs[k]?.getD 0) lo hi) = false := by simpa [List.getD] using hin
        clear hin
        go_wp2_with (go_at_call 95; refine (allInLit_any _ lo hi p q _ hp hq).mono ?_; rintro e w' ⟨rfl, rfl⟩)
        go_round
        case rel =>
          refine ⟨k + 1, by omega, by go_num, fun j hj => ?_⟩
          by_cases h : j = k
          · subst h; exact Hin.out
          · exact Hall.out j (by omega)
        case measure => simp [intOf]; omega
      | false =>
        have Hin := Lib.hid hin
        have hin' : (!inR (zs[k]?.getD 0) lo hi) = true := by simpa [List.getD] using hin
        clear hin
        go_wp2_with (go_at_call 95; refine (allInLit_any _ lo hi p q _ hp hq).mono ?_; rintro e w' ⟨rfl, rfl⟩)
        go_ret
        refine ⟨?_, rfl⟩
        have : zs.findIdx? (fun z => !inR z lo hi) = some k := by
          have hlz : k < zs.length := by rw [hx.1]; exact hlt
          rw [List.findIdx?_eq_some_iff_getElem]
          refine ⟨hlz, ?_, fun j hj => ?_⟩
          · have := Hin.out; rw [getD_eq _ _ hlz] at this; simp [this]
          · have := Hall.out j hj; rw [getD_eq _ _ (by omega)] at this; simp [this]
        simp [firstOut, this]
    · go_wp2
      go_ret
      refine ⟨?_, rfl⟩
      have hkl : k = len := by omega
      have : zs.findIdx? (fun z => !inR z lo hi) = none := by
        rw [List.findIdx?_eq_none_iff]
        intro x hxm
        obtain ⟨j, hj, rfl⟩ := List.getElem_of_mem hxm
        have := Hall.out j (by have := hx.1; omega)
        rw [getD_eq _ _ hj] at this
        simp [this]
      simp [firstOut, this]

theorem containsFuncR_any (a : Option Addr) (len cap : Nat) (zs : List Int) (lo hi : Int) (p q : Addr) (w : World) (hb : len < 4611686018427387904) (hx : IsInts w a len zs) (hp : w.cell? p = some (.int .i64 lo)) (hq : w.cell? q = some (.int .i64 hi)) :
    Calls Tryz.prog 94 #[.slice a len cap, .func (.func 95) #[] #[.pointer (some p), .pointer (some q)]] w fun e w' => e = .returned (.bool (!allR zs lo hi)) ∧ w = w' := by
  go_enter Tryz.func94, Tryz.ntmps94
  go_wp2_with (go_at_call 128; refine (indexFuncR_any _ _ _ zs lo hi p q _ hb hx hp hq).mono ?_; rintro e w' ⟨rfl, rfl⟩)
  go_ret
  exact ⟨by rw [← firstOut_neg]; rfl, rfl⟩

theorem allIn_any (a : Option Addr) (len cap : Nat) (zs : List Int) (lo hi : Int) (w : World) (hb : len < 4611686018427387904) (hx : IsInts w a len zs) :
    Calls Tryz.prog 56 #[.slice a len cap, .int .i64 lo, .int .i64 hi] w (Ret w (.bool (allR zs lo hi))) := by
  have hbel : Below w.heap.size w ((w.alloc (.cells #[.int .i64 lo] 2)).alloc (.cells #[.int .i64 hi] 2)) := ((Below.refl _ _).alloc (Nat.le_refl _) _).alloc (by simp) _
  have hx2 := hx.below hbel
  have Hb := Lib.hid hbel
  clear hbel
  go_enter Tryz.func56, Tryz.ntmps56
  have hp : ((w.alloc (.cells #[.int .i64 lo] 2)).alloc (.cells #[.int .i64 hi] 2)).cell? ⟨w.heap.size, 0, none⟩ = some (.int .i64 lo) := by go_simp
  have hq : ((w.alloc (.cells #[.int .i64 lo] 2)).alloc (.cells #[.int .i64 hi] 2)).cell? ⟨w.heap.size + 1, 0, none⟩ = some (.int .i64 hi) := by go_simp
  go_wp2_with (go_at_call 94; refine (containsFuncR_any _ _ _ zs lo hi ⟨w.heap.size, 0, none⟩ ⟨w.heap.size + 1, 0, none⟩ _ hb hx2 hp hq).mono ?_; rintro e w' ⟨rfl, rfl⟩)
  go_ret
  exact ⟨by simp, Hb.out⟩



end Go.Proofs.YtaneocedklnajaaGreat

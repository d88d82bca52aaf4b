import Derived.Test.YtddmglgogjaajaaWts
/- When weights are dyadic: the program's test and the reference's level. -/
namespace Go.Proofs.Ytddmglgogjaajaa
open Go.RowKit
set_option linter.unusedVariables false

/-- The reference's total: 0 for a list that is no weights (its sum may still be 0). -/
def totalR (zs : List Int) : Int := if inR zs.length 1 16 && allR zs 0 1000000 then (if 1000000 < zs.sum then 0 else zs.sum) else 0

theorem sum_bd (zs : List Int) (h : allR zs 0 1000000 = true) : 0 ≤ zs.sum ∧ zs.sum ≤ 1000000 * zs.length := by
  induction zs with
  | nil => simp
  | cons z zs ih =>
    simp only [allR, List.all_cons, Bool.and_eq_true] at h
    have := ih h.2
    have h1 := h.1
    simp only [inR, Bool.and_eq_true, decide_eq_true_eq] at h1
    simp only [List.sum_cons, List.length_cons]
    omega

theorem sum_snoc (zs : List Int) (z : Int) : (zs ++ [z]).sum = zs.sum + z := by
  induction zs with
  | nil => simp
  | cons y ys ih => simp [ih]; omega

theorem allR_take (zs : List Int) (lo hi : Int) (k : Nat) (h : ∀ j, j < k → inR (zs.getD j 0) lo hi = true) (hk : k ≤ zs.length) : allR (zs.take k) lo hi = true := by
  unfold allR
  rw [List.all_eq_true]
  intro x hx
  obtain ⟨j, hj, rfl⟩ := List.getElem_of_mem hx
  have hj' : j < k := by simp at hj; omega
  have := h j hj'
  rw [getD_eq _ _ (by omega)] at this
  simpa using this

set_option maxHeartbeats 800000 in
theorem l06Total_any (a : Option Addr) (len cap : Nat) (zs : List Int) (w : World) (hb : len < 4611686018427387904) (hx : IsInts w a len zs) :
    Calls Try.prog 122 #[.slice a len cap] w fun e w' => e = .returned (.int .i64 (totalR zs)) ∧ w = w' := by
  cases hr : inR len 1 16 with
  | false =>
    go_enter Try.func122, Try.ntmps122
    go_wp2_with (go_at_call 66; refine (l00In_any _ _ _ _).mono ?_; rintro e w' ⟨rfl, rfl⟩)
    go_ret
    exact ⟨by simp [totalR, hx.1, hr], rfl⟩
  | true =>
    have hlen : len ≤ 16 := by simp [inR] at hr; omega
    go_enter Try.func122, Try.ntmps122
    go_wp2_with (go_at_call 66; refine (l00In_any _ _ _ _).mono ?_; rintro e w' ⟨rfl, rfl⟩)
    have Hr := Lib.hid hr
    clear hr
    go_loop [3, 4] (fun t i => ∃ k : Nat, k ≤ len ∧ i = .int .i64 k ∧ t = .int .i64 (zs.take k).sum ∧ ∀ j, j < k → inR (zs.getD j 0) 0 1000000 = true) (fun _ i => len - (intOf i).toNat)
    case atStart => exact ⟨0, Nat.zero_le _, rfl, rfl, by omega⟩
    case round =>
      obtain ⟨k, hk, rfl, rfl, hall⟩ := hrel
      have hsb := sum_bd (zs.take k) (allR_take zs 0 1000000 k hall (by rw [hx.1]; exact hk))
      have hs0 : 0 ≤ (zs.take k).sum := hsb.1
      have hs1 : (zs.take k).sum ≤ 16000000 := by
        have h2 := hsb.2
        have h3 : (zs.take k).length ≤ 16 := by simp; omega
        omega
      have Hall := Lib.hid hall
      clear hall hsb
      by_cases hlt : k < len
      · obtain ⟨b, off, ha, h1⟩ := hx.at hlt
        subst ha
        have hk0 : (0:Int) ≤ (k:Int) := by omega
        have hkl : (k:Int) < (len:Int) := by omega
        cases hin : inR (zs.getD k 0) 0 1000000 with
        | true =>
          have Hin := Lib.hid hin
          have hin' : inR (zs[k]?.getD 0) 0 1000000 = true := by simpa [List.getD] using hin
          have hz : 0 ≤ zs[k]?.getD 0 ∧ zs[k]?.getD 0 ≤ 1000000 := by simpa [inR] using hin'
          obtain ⟨hz0, hz1⟩ := hz
          clear hin
          go_wp2_with (go_at_call 66; refine (l00In_any _ _ _ _).mono ?_; rintro e w' ⟨rfl, rfl⟩)
          go_round
          case rel =>
            refine ⟨k + 1, by omega, by go_num, ?_, fun j hj => ?_⟩
            · rw [take_snoc zs k (by have := hx.1; omega), sum_snoc]; simp [List.getD]
            · by_cases h : j = k
              · subst h; exact Hin.out
              · exact Hall.out j (by omega)
          case measure => simp [intOf]; omega
        | false =>
          have Hin := Lib.hid hin
          have hin' : inR (zs[k]?.getD 0) 0 1000000 = false := by simpa [List.getD] using hin
          clear hin
          go_wp2_with (go_at_call 66; refine (l00In_any _ _ _ _).mono ?_; rintro e w' ⟨rfl, rfl⟩)
          go_ret
          refine ⟨?_, rfl⟩
          have : allR zs 0 1000000 = false := by
            unfold allR
            rw [List.all_eq_false]
            have hl : k < zs.length := by have := hx.1; omega
            refine ⟨zs[k], List.getElem_mem hl, ?_⟩
            have h := Hin.out
            rw [getD_eq _ _ hl] at h
            simp [h]
          simp [totalR, this]
      · have hkl : k = zs.length := by have := hx.1; omega
        have hal : allR zs 0 1000000 = true := by
          have := allR_take zs 0 1000000 k Hall.out (by omega)
          rwa [hkl, List.take_length] at this
        have htk : zs.take k = zs := by rw [hkl, List.take_length]
        have hr := Hr.out
        rw [← hx.1] at hr
        have HR := Lib.hid (And.intro hr (And.intro hal (And.intro htk hkl)))
        clear hr hal htk hkl
        go_wp2
        · have hbig : 1000000 < (zs.take k).sum := by assumption
          go_ret
          refine ⟨?_, rfl⟩
          obtain ⟨hr, hal, htk, hkl⟩ := HR.out
          rw [htk] at hbig
          simp [totalR, hbig]
        · have hbig : (zs.take k).sum ≤ 1000000 := by assumption
          go_ret
          refine ⟨?_, rfl⟩
          obtain ⟨hr, hal, htk, hkl⟩ := HR.out
          rw [htk] at hbig
          simp only [totalR, hr, hal, Bool.and_self, if_true, if_neg (Int.not_lt.2 hbig)]
          rw [htk]
          rfl

/-- The exponent of a power of 2 up to 2^12, -1 of others. -/
def levelOf (t : Int) : Int := match (List.range 13).find? (fun k => t == (2 : Int) ^ k) with | some k => (k : Int) | none => -1

set_option maxHeartbeats 800000 in
theorem l06Level_any (a : Option Addr) (len cap : Nat) (zs : List Int) (w : World) (hb : len < 4611686018427387904) (hx : IsInts w a len zs) :
    Calls Try.prog 59 #[.slice a len cap] w fun e w' => e = .returned (.int .i64 (levelOf (totalR zs))) ∧ w = w' := by
  go_enter Try.func59, Try.ntmps59
  go_wp2_with (go_at_call 122; refine (l06Total_any _ _ _ zs _ hb hx).mono ?_; rintro e w' ⟨rfl, rfl⟩)
  go_loop [4] (fun i => ∃ k : Nat, k ≤ 13 ∧ i = .int .i64 k ∧ ∀ j, j < k → (totalR zs == (2 : Int) ^ j) = false) (fun i => 13 - (intOf i).toNat)
  case atStart => exact ⟨0, Nat.zero_le _, rfl, by omega⟩
  case round =>
    obtain ⟨k, hk, rfl, hall⟩ := hrel
    have Hall := Lib.hid hall
    clear hall
    by_cases hlt : k ≤ 12
    · have hk0 : (0:Int) ≤ (k:Int) := by omega
      have hk1 : (k:Int) ≤ 12 := by omega
      go_wp2
      · have h : (totalR zs == wrap64 (2 ^ k)) = true := by assumption
        go_ret
        refine ⟨?_, rfl⟩
        rw [pow_wrap k (by omega)] at h
        have : (List.range 13).find? (fun k => totalR zs == (2 : Int) ^ k) = some k := by
          rw [List.find?_range_eq_some]
          exact ⟨h, by simp; omega, fun j hj => by simp [Hall.out j hj]⟩
        simp [levelOf, this]
      · have h : (totalR zs == wrap64 (2 ^ k)) = false := by assumption
        rw [pow_wrap k (by omega)] at h
        go_round
        case rel =>
          refine ⟨k + 1, by omega, by go_num, fun j hj => ?_⟩
          by_cases hjk : j = k
          · subst hjk; exact h
          · exact Hall.out j (by omega)
        case measure => simp [intOf]; omega
    · go_wp2
      go_ret
      refine ⟨?_, rfl⟩
      have hk13 : k = 13 := by omega
      subst hk13
      have : (List.range 13).find? (fun k => totalR zs == (2 : Int) ^ k) = none := by
        rw [List.find?_eq_none]
        intro x hx
        simp only [List.mem_range] at hx
        rw [Hall.out x hx]; simp
      simp only [levelOf, this]
      rfl
def isDy (zs : List Int) : Bool := areW zs && (bits BinOp.and .i64 (sumL zs) (wrap64 (sumL zs - 1)) == 0 && decide (sumL zs ≤ 4096))
set_option maxHeartbeats 400000 in
theorem isDyadic_any (a : Option Addr) (len cap : Nat) (zs : List Int) (w : World) (hb : len < 4611686018427387904) (hx : IsInts w a len zs) :
    Calls Try.prog 61 #[.slice a len cap] w (Ret w (.bool (isDy zs))) := by
  cases h1 : areW zs with
  | false =>
    go_enter Try.func61, Try.ntmps61
    go_wp2_with (go_at_call 123; refine (areWeights_any _ _ _ zs _ hb hx).mono ?_; rintro e w' ⟨rfl, hbel⟩)
    go_ret
    exact ⟨by simp [isDy, h1], hbel⟩
  | true =>
    go_enter Try.func61, Try.ntmps61
    go_wp2_with (first
        | (go_at_call 123; refine (areWeights_any _ _ _ zs _ hb hx).mono ?_; rintro e w' ⟨rfl, hbel⟩)
        | (go_at_call 124; refine (totalOf_any _ _ _ zs _ hb (hx.below hbel)).mono ?_; rintro e w' ⟨rfl, rfl⟩))
    · have h : bits BinOp.and IntKind.i64 (sumL zs) (wrap64 (sumL zs - 1)) = 0 := by assumption
      go_ret
      exact ⟨by simp [isDy, h1, h], hbel⟩
    · have h : ¬ bits BinOp.and IntKind.i64 (sumL zs) (wrap64 (sumL zs - 1)) = 0 := by assumption
      go_ret
      exact ⟨by simp [isDy, h1, h], hbel⟩

end Go.Proofs.Ytddmglgogjaajaa

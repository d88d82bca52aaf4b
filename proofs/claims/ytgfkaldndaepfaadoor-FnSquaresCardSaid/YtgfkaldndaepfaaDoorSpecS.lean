import Derived.Test.YtgfkaldndaepfaaDoorSpecW
/- The spectrum of a table: the reference's walk, and the law FnExactSpectrumOf. Condition: the text is shorter than the model's greatest length. -/
namespace Go.Proofs.YtgfkaldndaepfaaDoor
open Go.RowKit
set_option linter.unusedVariables false

theorem l02ParityT_any (m : Nat) (w : World) (hm : m < 64) : Calls Tryd.prog 31 #[.int .i64 (m : Nat)] w fun e w' => e = .returned (.int .i64 (if par6 m then 1 else 0)) ∧ w' = w := by
  obtain ⟨P, hP⟩ : ∃ P, par6 m = P := ⟨_, rfl⟩
  rw [hP]
  have HP := Lib.hid hP
  obtain ⟨C, hC⟩ : ∃ C : Int, (if P then 1 else 0 : Int) = C := ⟨_, rfl⟩
  rw [hC]
  have HC := Lib.hid hC
  clear hP hC
  go_enter Tryd.func31, Tryd.ntmps31
  go_wp2
  go_loopw [0, 3] (fun n p wr => ∃ (v b : Nat), v < 64 ∧ b < 2 ∧ n = .int .i64 (v : Nat) ∧ p = .int .i64 (b : Nat) ∧ wr = w ∧ Hid (xor (b == 1) (par6 v) = P)) (fun n _ _ => (intOf n).toNat)
  case atStart => exact ⟨m, 0, hm, by omega, rfl, rfl, rfl, Lib.hid (by rw [HP.out]; cases P <;> rfl)⟩
  case round =>
    clear HP
    obtain ⟨v, b, hv, hb, rfl, rfl, rfl, HX⟩ := hrel
    by_cases h0 : 0 < v
    · have h0i : (0:Int) < (v:Int) := by omega
      obtain ⟨r, hr⟩ : ∃ r, v % 2 = r := ⟨_, rfl⟩
      have hand : bits .and .i64 (v : Int) 1 = ((r : Nat) : Int) := by
        rw [← hr]
        have := and_i64 v 1 (by omega) (by omega)
        rw [show v &&& 1 = v % 2 from Nat.and_one_is_mod v] at this
        exact this
      obtain ⟨b', hb'⟩ : ∃ b', b ^^^ r = b' := ⟨_, rfl⟩
      have hb2 : b' < 2 ∧ (b' == 1) = xor (b == 1) (r == 1) := by
        subst hb'
        have : ∀ b, b < 2 → ∀ r, r < 2 → b ^^^ r < 2 ∧ (b ^^^ r == 1) = xor (b == 1) (r == 1) := by decide
        exact this b hb r (by omega)
      have hxor : bits .xor .i64 (b : Int) (r : Int) = ((b' : Nat) : Int) := by rw [xor_i64 b r (by omega) (by omega), hb']
      obtain ⟨d, hd⟩ : ∃ d, v / 2 = d := ⟨_, rfl⟩
      have hdi : (v : Int) / 2 = ((d : Nat) : Int) := by omega
      have HX2 := Lib.hid (show xor (b' == 1) (par6 d) = P by
        have h1 := HX.out
        rw [par6_step v hv, hr, hd] at h1
        rw [hb2.2, ← h1]
        cases (b == 1) <;> cases (r == 1) <;> cases par6 d <;> rfl)
      have hd64 : d < 64 := by omega
      have hdv : d < v := by omega
      have hb2' := hb2.1
      clear hr hb' hb2 hd
      go_wp2
      go_roundw
      case rel => exact ⟨d, b', hd64, hb2', by go_num, rfl, trivial, HX2⟩
      case measure => simp [intOf]; omega
    · obtain rfl : v = 0 := by omega
      have HY := Lib.hid (show (b : Int) = C by
        rw [← HC.out]
        have h1 := HX.out
        have : par6 0 = false := by decide
        rw [this] at h1
        obtain rfl | rfl : b = 0 ∨ b = 1 := by omega
        · rw [← h1]; rfl
        · rw [← h1]; rfl)
      go_wp2
      go_ret
      exact ⟨by rw [← HY.out]; rfl, rfl⟩
theorem parity_one (m : Nat) (hm : m < 64) (h : par6 m = true) (w : World) : Calls Tryd.prog 31 #[.int .i64 (m : Nat)] w fun e w' => e = .returned (.int .i64 1) ∧ w' = w := by
  have := l02ParityT_any m w hm
  rw [h] at this
  exact this
theorem parity_zero (m : Nat) (hm : m < 64) (h : par6 m = false) (w : World) : Calls Tryd.prog 31 #[.int .i64 (m : Nat)] w fun e w' => e = .returned (.int .i64 0) ∧ w' = w := by
  have := l02ParityT_any m w hm
  rw [h] at this
  exact this
theorem spS'_at {s : ByteArray} {a : Nat} (h : a < s.size) : (spS' s).getD a 0 = csum (spS a) (sgF s) s.size := by
  rw [getD_eq _ _ (by rw [spS'_len]; exact h)]
  simp [spS']
theorem spS_1 (a x : Nat) : -1 ≤ spS a x ∧ spS a x ≤ 1 := by
  rcases spS_le a x with h | h <;> rw [h] <;> decide
theorem spS'_bound (s : ByteArray) (a : Nat) (hsz : s.size ≤ 64) : -64 ≤ (spS' s).getD a 0 ∧ (spS' s).getD a 0 ≤ 64 := by
  by_cases h : a < s.size
  · rw [spS'_at h]
    have := csum_le (c := spS a) (f := sgF s) (fun x => spS_1 a x) (sgF_or s) s.size
    omega
  · simp [List.getD, List.getElem?_eq_none (show (spS' s).length ≤ a by rw [spS'_len]; omega)]
set_option maxHeartbeats 800000 in
theorem spectrumOf_any (s : ByteArray) (w : World) (hs : s.size ≤ maxLen) : Calls Tryd.prog 7 #[.string s] w (RetSl w (isT s) (tabL s (spS' s))) := by
  cases ht : isT s with
  | false =>
    rw [show tabL s (spS' s) = [] by unfold tabL; rw [ht]; rfl]
    have HT := Lib.hid ht
    clear ht
    go_enter Tryd.func7, Tryd.ntmps7
    go_wp2_with fail
    refine (isTable_any s _ hs).mono ?_
    rintro e w1 ⟨rfl, hb1⟩
    rw [HT.out]
    go_wp2_with fail
    go_ret2
    exact retSl_no hb1
  | true =>
    rw [show tabL s (spS' s) = spS' s by unfold tabL; rw [ht]; rfl]
    obtain ⟨k, hi, hk, hsz, hB⟩ := isT_iff ht
    have HT := Lib.hid (And.intro ht (And.intro hsz hB))
    clear ht hi hsz hB
    go_enter Tryd.func7, Tryd.ntmps7
    go_wp2_with fail
    refine (isTable_any s _ hs).mono ?_
    rintro e w1 ⟨rfl, hb1⟩
    rw [HT.out.1]
    have Hb1 := Lib.hid hb1
    clear hb1
    go_wp2_with fail
    refine (spectrum_any s k _ hk HT.out.2.1 HT.out.2.2).mono ?_
    rintro e w2 ⟨a, c, rfl, hown, hb2⟩
    have H := Lib.hid (And.intro (Lists.one (own_mono hown Hb1.out.size)) (bthen Hb1.out hb2))
    clear hown hb2
    go_wp2_with fail
    go_ret2
    exact ⟨a, c, rfl, H.out.1, H.out.2⟩
end Go.Proofs.YtgfkaldndaepfaaDoor

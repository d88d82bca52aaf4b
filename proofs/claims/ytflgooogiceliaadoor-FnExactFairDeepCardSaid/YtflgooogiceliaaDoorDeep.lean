import Derived.Test.YtflgooogiceliaaDoorPairs2
/- Fair bits of pairs, and of what pairs leave: the laws FnExactFairPairs and FnExactFairDeep. Condition: the text is shorter than the model's greatest length. -/
namespace Go.Proofs.YtflgooogiceliaaDoor
open Go.RowKit
set_option linter.unusedVariables false

def fpX (s : ByteArray) : List Int := if isB s then frX s else []
theorem implFairPairs_any (s : ByteArray) (w : World) (hs : s.size ≤ maxLen) : Calls Tryd.prog 48 #[.string s] w (RetTx w (isB s) (fpX s)) := by
  cases h : isB s with
  | false =>
    have HV := Lib.hid (And.intro h (show fpX s = [] by unfold fpX; rw [h]; rfl))
    clear h
    go_enter Tryd.func48, Tryd.ntmps48
    go_wp2_with fail
    refine (isBits_any s _ hs).mono ?_
    rintro e w1 ⟨rfl, hb1⟩
    rw [HV.out.1]
    go_wp2_with fail
    go_ret2
    rw [HV.out.2]
    exact retTx_no hb1
  | true =>
    have hs4 := isB_size h
    have HC := Lib.hid (fun w => fairPairs_any s w hs4)
    have HV := Lib.hid (And.intro h (show fpX s = frX s by unfold fpX; rw [h]; rfl))
    clear h
    go_enter Tryd.func48, Tryd.ntmps48
    go_wp2_with fail
    refine (isBits_any s _ hs).mono ?_
    rintro e w1 ⟨rfl, hb1⟩
    rw [HV.out.1]
    have Hb1 := Lib.hid hb1
    clear hb1
    go_wp2_with fail
    refine (HC.out _).mono ?_
    rintro e w2 ⟨rfl, hb2⟩
    have Hb2 := Lib.hid (bthen Hb1.out hb2)
    clear hb2
    go_wp2_with fail
    go_ret2
    exact ⟨by rw [HV.out.2]; rfl, Hb2.out⟩
theorem specFairPairs_any (s : ByteArray) (w : World) (hs : s.size ≤ maxLen) : Calls Tryd.prog 47 #[.string s] w (RetTx w (isB s) (fpX s)) := by
  cases h : isB s with
  | false =>
    have HV := Lib.hid (And.intro h (show fpX s = [] by unfold fpX; rw [h]; rfl))
    clear h
    go_enter Tryd.func47, Tryd.ntmps47
    go_wp2_with fail
    refine (l01Bits_any s _ hs).mono ?_
    rintro e w1 ⟨rfl, rfl⟩
    rw [HV.out.1]
    go_wp2_with fail
    go_ret2
    rw [HV.out.2]
    exact retTx_no (Below.refl _ _)
  | true =>
    have hs4 := isB_size h
    have HC := Lib.hid (fun w => l06Pairs_any s w hs4)
    have HV := Lib.hid (And.intro h (show fpX s = frX s by unfold fpX; rw [h]; rfl))
    clear h
    go_enter Tryd.func47, Tryd.ntmps47
    go_wp2_with fail
    refine (l01Bits_any s _ hs).mono ?_
    rintro e w1 ⟨rfl, rfl⟩
    rw [HV.out.1]
    go_wp2_with fail
    refine (HC.out _).mono ?_
    rintro e w2 ⟨rfl, hb2⟩
    have Hb2 := Lib.hid hb2
    clear hb2
    go_wp2_with fail
    go_ret2
    exact ⟨by rw [HV.out.2]; rfl, Hb2.out⟩
theorem fnExactFairPairs_walk (s : ByteArray) (w : World) (hs : s.size ≤ maxLen) :
    Calls Tryd.prog 12 #[.string s] w fun e w' => e = .returned (.bool true) ∧ Below w.heap.size w w' := by
  by_cases hbig : 1048576 < s.size
  · have : (1048576 : Int) < (s.size : Int) := by omega
    go_enter Tryd.func12, Tryd.ntmps12
    go_wp2
    go_ret
    exact ⟨rfl, Below.refl _ _⟩
  · have HI := Lib.hid (fun w => implFairPairs_any s w hs)
    have HS := Lib.hid (fun w => specFairPairs_any s w hs)
    unfold RetTx at HI HS
    obtain ⟨d, hd⟩ : ∃ d, isB s = d := ⟨_, rfl⟩
    obtain ⟨z, hz⟩ : ∃ z, strOfNums (fpX s) = z := ⟨_, rfl⟩
    rw [hd, hz] at HI HS
    have h0 : ¬ (1048576 : Int) < (s.size : Int) := by omega
    clear hd hz hbig
    go_enter Tryd.func12, Tryd.ntmps12
    go_wp2_with fail
    refine (HS.out _).mono ?_
    rintro e w1 ⟨rfl, hb1⟩
    have HB1 := Lib.hid hb1
    clear hb1
    go_wp2_with fail
    refine (HI.out _).mono ?_
    rintro e w2 ⟨rfl, hb2⟩
    have HB2 := Lib.hid (bthen HB1.out hb2)
    clear hb2
    go_wp2
    go_ret
    exact ⟨rfl, HB2.out⟩
/-- What both make of bits. -/
def ffD : Nat → ByteArray → ByteArray
  | 0, _ => ⟨#[]⟩
  | d + 1, s => (strOfNums (frX s) ++ ffD d (strOfNums (dfX s))) ++ ffD d (strOfNums (eqX s))
theorem dfX_size (s : ByteArray) : (strOfNums (dfX s)).size = s.size / 2 := by rw [strOfNums_size]; exact dfP_len _ _
theorem eqX_size (s : ByteArray) : (strOfNums (eqX s)).size ≤ s.size / 2 := by rw [strOfNums_size]; exact shF_len _ _ _
theorem frX_size (s : ByteArray) : (strOfNums (frX s)).size ≤ s.size / 2 := by rw [strOfNums_size]; exact shF_len _ _ _
theorem ffD_size : ∀ (d : Nat) (s : ByteArray), s.size ≤ 400 → (ffD d s).size + 400 ≤ 400 * 2 ^ d
  | 0, s, h => (by decide : 0 + 400 ≤ 400 * 2 ^ 0)
  | d + 1, s, h => by
    have h1 := ffD_size d (strOfNums (dfX s)) (by rw [dfX_size]; omega)
    have h2 := ffD_size d (strOfNums (eqX s)) (by have := eqX_size s; omega)
    have h3 := frX_size s
    rw [ffD, Nat.pow_succ]
    simp only [ByteArray.size_append]
    omega
theorem ffD_le {d : Nat} (hd : d ≤ 8) {s : ByteArray} (hs : s.size ≤ 400) : (ffD d s).size ≤ 102000 := by
  have h1 := ffD_size d s hs
  have h2 : ∀ d, d ≤ 8 → 2 ^ d ≤ 256 := by decide
  have := h2 d hd
  omega
theorem cat_size {a b : ByteArray} {m n : Nat} (ha : a.size ≤ m) (hb : b.size ≤ n) : (a ++ b).size ≤ m + n := by rw [ByteArray.size_append]; omega
set_option maxHeartbeats 800000 in
theorem l06Deep_any : ∀ (d : Nat) (s : ByteArray) (w : World), s.size ≤ 400 → d ≤ 8 → Calls Tryd.prog 85 #[.string s, .int .i64 (d : Nat)] w fun e w' => e = .returned (.string (ffD d s)) ∧ Below w.heap.size w w'
  | 0, s, w, hs, hd => by
    go_enter Tryd.func85, Tryd.ntmps85
    go_wp2
    go_ret
    exact ⟨rfl, Below.refl _ _⟩
  | d + 1, s, w, hs, hd => by
    have HC := Lib.hid (fun w => l06Pairs_any s w hs)
    have H1 := Lib.hid (fun w => l06Deep_any d (strOfNums (dfX s)) w (by rw [dfX_size]; omega) (by omega))
    have H2 := Lib.hid (fun w => l06Deep_any d (strOfNums (eqX s)) w (by have := eqX_size s; omega) (by omega))
    have hff : ffD (d + 1) s = (strOfNums (frX s) ++ ffD d (strOfNums (dfX s))) ++ ffD d (strOfNums (eqX s)) := rfl
    unfold Ret3S at HC
    obtain ⟨F, hF⟩ : ∃ F, ffD (d + 1) s = F := ⟨_, rfl⟩
    rw [hF] at hff ⊢
    obtain ⟨a, ha⟩ : ∃ a, strOfNums (frX s) = a := ⟨_, rfl⟩
    obtain ⟨b, hb⟩ : ∃ b, strOfNums (dfX s) = b := ⟨_, rfl⟩
    obtain ⟨c, hc⟩ : ∃ c, strOfNums (eqX s) = c := ⟨_, rfl⟩
    rw [ha, hb, hc] at hff HC
    rw [hb] at H1
    rw [hc] at H2
    have sa : a.size ≤ 400 := by rw [← ha]; have := frX_size s; omega
    have sb := ffD_le (d := d) (s := b) (by omega) (by rw [← hb, dfX_size]; omega)
    have sc := ffD_le (d := d) (s := c) (by omega) (by rw [← hc]; have := eqX_size s; omega)
    obtain ⟨X, hX⟩ : ∃ X, ffD d b = X := ⟨_, rfl⟩
    obtain ⟨Y, hY⟩ : ∃ Y, ffD d c = Y := ⟨_, rfl⟩
    rw [hX] at H1 hff sb
    rw [hY] at H2 hff sc
    have sab := cat_size sa sb
    have HF := Lib.hid hff
    clear hX hY
    have hd0 : (0:Int) ≤ (d:Int) := by omega
    have hd8 : (d:Int) ≤ 7 := by omega
    have hne : ((d:Int) + 1 == 0) = false := by rw [beq_eq_false_iff_ne]; omega
    have hsub : (d:Int) + 1 - 1 = (d:Int) := by omega
    clear hF hff ha hb hc
    go_enter Tryd.func85, Tryd.ntmps85
    go_wp2_with fail
    refine (HC.out _).mono ?_
    rintro e w1 ⟨rfl, hb1⟩
    have Hb1 := Lib.hid hb1
    clear hb1
    go_wp2_with fail
    refine (H1.out _).mono ?_
    rintro e w2 ⟨rfl, hb2⟩
    have Hb2 := Lib.hid (bthen Hb1.out hb2)
    clear hb2
    go_wp2_with fail
    refine (H2.out _).mono ?_
    rintro e w3 ⟨rfl, hb3⟩
    have Hb3 := Lib.hid (bthen Hb2.out hb3)
    clear hb3
    go_wp2
    go_ret
    exact ⟨by rw [HF.out]; rfl, Hb3.out⟩
end Go.Proofs.YtflgooogiceliaaDoor

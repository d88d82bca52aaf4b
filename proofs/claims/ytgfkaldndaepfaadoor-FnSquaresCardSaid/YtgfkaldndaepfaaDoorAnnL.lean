import Derived.Test.YtgfkaldndaepfaaDoorAnnO
import Derived.Test.YtgfkaldndaepfaaDoorAnl
/- The least degree of an annihilator: program and reference. Condition: the text is shorter than the model's greatest length. -/
namespace Go.Proofs.YtgfkaldndaepfaaDoor
open Go.RowKit
set_option linter.unusedVariables false

noncomputable def anH (s : ByteArray) (c : Bool) (d : Nat) : Bool := annB (bitF s) c (inpI s).toNat d
noncomputable def anV (s : ByteArray) : Int := (adGo (anH s) 7 0 : Nat)
theorem anH_six {s : ByteArray} (hk : (inpI s).toNat < 7) : (anH s false 6 || anH s true 6) = true := by
  rcases ann_half (bitF s) hk (show ((inpI s).toNat + 1) / 2 ≤ 6 by omega) (by omega) with h | h
  · rw [show anH s false 6 = true from annB_true h]; rfl
  · rw [show anH s true 6 = true from annB_true h]; simp
theorem annDegree_any (s : ByteArray) (w : World) (hs : s.size ≤ maxLen) : Calls Tryd.prog 10 #[.string s] w (RetVal w (isT s) (tabV s (anV s))) := by
  cases ht : isT s with
  | false =>
    rw [show tabV s (anV s) = 0 by unfold tabV; rw [ht]; rfl]
    have HT := Lib.hid ht
    clear ht
    go_enter Tryd.func10, Tryd.ntmps10
    go_wp2_with fail
    refine (isTable_any s _ hs).mono ?_
    rintro e w1 ⟨rfl, hb1⟩
    rw [HT.out]
    go_wp2_with fail
    go_ret2
    exact ⟨rfl, hb1⟩
  | true =>
    rw [show tabV s (anV s) = anV s by unfold tabV; rw [ht]; rfl]
    obtain ⟨k, hi, hk, hsz, hB⟩ := isT_iff ht
    have hki : (inpI s).toNat = k := by rw [inpI_some hi]; rfl
    have h6 := anH_six (s := s) (by omega)
    have hC : ∀ (w : World) (c : Bool) (d : Nat), d ≤ 6 → Calls Tryd.prog 24 #[.string s, .int .u8 (vB c), .int .i64 d] w (Ret w (.bool (anH s c d))) := fun w c d hd => by
      unfold anH; rw [hki]; exact hasA_any s c d k w hk hsz hB hd
    exact annDegree_of s (anH s) w hs ht (fun w d hd => hC w false d hd) (fun w d hd => hC w true d hd) h6
theorem specAnnDegree_any (s : ByteArray) (w : World) (hs : s.size ≤ maxLen) : Calls Tryd.prog 16 #[.string s] w (RetVal w (isT s) (tabV s (anV s))) := by
  cases ht : isT s with
  | false =>
    rw [show tabV s (anV s) = 0 by unfold tabV; rw [ht]; rfl]
    have HT := Lib.hid ht
    clear ht
    go_enter Tryd.func16, Tryd.ntmps16
    go_wp2_with fail
    refine (l04Table_any s _ hs).mono ?_
    rintro e w1 ⟨rfl, rfl⟩
    rw [HT.out]
    go_wp2_with fail
    go_ret2
    exact ⟨rfl, Below.refl _ _⟩
  | true =>
    rw [show tabV s (anV s) = anV s by unfold tabV; rw [ht]; rfl]
    obtain ⟨k, hi, hk, hsz, hB⟩ := isT_iff ht
    have hki : (inpI s).toNat = k := by rw [inpI_some hi]; rfl
    have h6 := anH_six (s := s) (by omega)
    have hC : ∀ (w : World) (c : Bool) (d : Nat), d ≤ 6 → Calls Tryd.prog 29 #[.string s, .int .u8 (vB c), .int .i64 d] w (Ret w (.bool (anH s c d))) := fun w c d hd => by
      unfold anH; rw [hki]; exact l04Ann_any s c d k w hk hsz hB hd
    exact specAnnDegree_of s (anH s) w hs ht (fun w d hd => hC w false d hd) (fun w d hd => hC w true d hd) h6
set_option maxHeartbeats 1600000 in
theorem fnExactAnnihilatorDegree_walk (s : ByteArray) (w : World) (hs : s.size ≤ maxLen) :
    Calls Tryd.prog 4 #[.string s] w fun e w' => e = .returned (.bool true) ∧ Below w.heap.size w w' := by
  by_cases hbig : 1048576 < s.size
  · have : (1048576 : Int) < (s.size : Int) := by omega
    go_enter Tryd.func4, Tryd.ntmps4
    go_wp2
    go_ret
    exact ⟨rfl, Below.refl _ _⟩
  · have HI := Lib.hid (fun w => annDegree_any s w hs)
    have HS := Lib.hid (fun w => specAnnDegree_any s w hs)
    obtain ⟨d, hd⟩ : ∃ d, isT s = d := ⟨_, rfl⟩
    obtain ⟨z, hz⟩ : ∃ z, tabV s (anV s) = z := ⟨_, rfl⟩
    rw [hd, hz] at HI HS
    have h0 : ¬ (1048576 : Int) < (s.size : Int) := by omega
    clear hd hz hbig
    go_enter Tryd.func4, Tryd.ntmps4
    go_wp2_with fail
    refine (HS.out _).mono ?_
    rintro e w1 ⟨rfl, hb1⟩
    have HB1 := Lib.hid hb1
    clear hb1
    go_wp2_with fail
    refine (HI.out _).mono ?_
    rintro e w2 ⟨rfl, hb2⟩
    have HB2 := Lib.hid (bthen HB1.out hb2)
    clear hb2
    go_wp2
    go_ret
    exact ⟨rfl, HB2.out⟩
end Go.Proofs.YtgfkaldndaepfaaDoor

import Derived.Test.YtgfkaldndaepfaaDoorDegr
import Derived.Test.YtgfkaldndaepfaaDoorImm
/- The least degree of an annihilator: the outer loops of program and reference, given what the inner ones answer. -/
namespace Go.Proofs.YtgfkaldndaepfaaDoor
open Go.RowKit
set_option linter.unusedVariables false

/-- The first d from here on at which h holds of a half. -/
def adGo (h : Bool → Nat → Bool) : Nat → Nat → Nat
  | 0, d => d
  | f + 1, d => if h false d || h true d then d else adGo h f (d + 1)
theorem ad_stop {h : Bool → Nat → Bool} {f d r : Nat} (hr : adGo h (f + 1) d = r) (hs : (h false d || h true d) = true) : d = r := by
  rw [adGo, if_pos hs] at hr; exact hr
theorem ad_go {h : Bool → Nat → Bool} {f d r : Nat} (hr : adGo h (f + 1) d = r) (hs : (h false d || h true d) = false) : adGo h f (d + 1) = r := by
  rw [adGo, if_neg (by rw [hs]; simp)] at hr; exact hr
set_option maxHeartbeats 400000 in
theorem annDegree_of (s : ByteArray) (h : Bool → Nat → Bool) (w : World) (hs : s.size ≤ maxLen) (hT : isT s = true)
    (HC : ∀ (w : World) (d : Nat), d ≤ 6 → Calls Tryd.prog 24 #[.string s, .int .u8 48, .int .i64 d] w (Ret w (.bool (h false d))))
    (HD : ∀ (w : World) (d : Nat), d ≤ 6 → Calls Tryd.prog 24 #[.string s, .int .u8 49, .int .i64 d] w (Ret w (.bool (h true d))))
    (h6 : (h false 6 || h true 6) = true) :
    Calls Tryd.prog 10 #[.string s] w (RetVal w true (adGo h 7 0 : Nat)) := by
  obtain ⟨r, hr⟩ : ∃ r, adGo h 7 0 = r := ⟨_, rfl⟩
  rw [hr]
  have HR := Lib.hid hr
  have HT := Lib.hid hT
  have H0 := Lib.hid HC
  have H1 := Lib.hid HD
  have H6 := Lib.hid h6
  clear hr hT HC HD h6
  go_enter Tryd.func10, Tryd.ntmps10
  go_wp2_with fail
  refine (isTable_any s _ hs).mono ?_
  rintro e w1 ⟨rfl, hb1⟩
  rw [HT.out]
  have HQ := Lib.hid hb1
  clear hb1
  go_wp2
  go_loopw [4] (fun i wr => ∃ d : Nat, d ≤ 6 ∧ i = .int .i64 (d : Nat) ∧ Hid (adGo h (7 - d) d = r) ∧ Hid (Below w.heap.size w wr)) (fun i _ => 7 - (intOf i).toNat)
  case atStart => exact ⟨0, Nat.zero_le _, rfl, HR, HQ⟩
  case round =>
    clear HQ
    obtain ⟨d, hd, rfl, HV, HQ⟩ := hrel
    have HV' := Lib.hid (show adGo h ((6 - d) + 1) d = r by rw [show 6 - d + 1 = 7 - d by omega]; exact HV.out)
    have HA := Lib.hid (H0.out · d hd)
    have HB := Lib.hid (H1.out · d hd)
    have hstop := fun hs => ad_stop HV'.out hs
    have hgo := fun hs => ad_go HV'.out hs
    have h6 := H6.out
    have hd6 : (h false d || h true d) = false → d < 6 := fun hf => by
      rcases Nat.lt_or_ge d 6 with hl | hl
      · exact hl
      · rw [show d = 6 by omega, h6] at hf; cases hf
    obtain ⟨x, hx⟩ : ∃ x, h false d = x := ⟨_, rfl⟩
    obtain ⟨y, hy⟩ : ∃ y, h true d = y := ⟨_, rfl⟩
    rw [hx] at HA hstop hgo hd6
    rw [hy] at HB hstop hgo hd6
    clear hx hy h6 HV
    cases x with
    | true =>
      obtain rfl := hstop rfl
      clear hstop hgo hd6 HV'
      go_wp2_with fail
      refine (HA.out _).mono ?_
      rintro e w2 ⟨rfl, hb2⟩
      have HQ2 := Lib.hid (bthen HQ.out hb2)
      clear hb2
      go_wp2
      go_ret2
      exact ⟨rfl, HQ2.out⟩
    | false =>
      cases y with
      | true =>
        obtain rfl := hstop rfl
        clear hstop hgo hd6 HV'
        go_wp2_with fail
        refine (HA.out _).mono ?_
        rintro e w2 ⟨rfl, hb2⟩
        have HQ2 := Lib.hid (bthen HQ.out hb2)
        clear hb2
        go_wp2_with fail
        refine (HB.out _).mono ?_
        rintro e w3 ⟨rfl, hb3⟩
        have HQ3 := Lib.hid (bthen HQ2.out hb3)
        clear hb3
        go_wp2
        go_ret2
        exact ⟨rfl, HQ3.out⟩
      | false =>
        have hlt := hd6 rfl
        have HN := Lib.hid (hgo rfl)
        clear hstop hgo hd6 HV'
        go_wp2_with fail
        refine (HA.out _).mono ?_
        rintro e w2 ⟨rfl, hb2⟩
        have HQ2 := Lib.hid (bthen HQ.out hb2)
        clear hb2
        go_wp2_with fail
        refine (HB.out _).mono ?_
        rintro e w3 ⟨rfl, hb3⟩
        have HQ3 := Lib.hid (bthen HQ2.out hb3)
        clear hb3
        go_wp2
        go_roundw
        case rel => exact ⟨d + 1, by omega, by go_num, Lib.hid (by rw [show 7 - (d + 1) = 6 - d by omega]; exact HN.out), HQ3⟩
        case measure => simp [intOf]; omega
set_option maxHeartbeats 400000 in
theorem specAnnDegree_of (s : ByteArray) (h : Bool → Nat → Bool) (w : World) (hs : s.size ≤ maxLen) (hT : isT s = true)
    (HC : ∀ (w : World) (d : Nat), d ≤ 6 → Calls Tryd.prog 29 #[.string s, .int .u8 48, .int .i64 d] w (Ret w (.bool (h false d))))
    (HD : ∀ (w : World) (d : Nat), d ≤ 6 → Calls Tryd.prog 29 #[.string s, .int .u8 49, .int .i64 d] w (Ret w (.bool (h true d))))
    (h6 : (h false 6 || h true 6) = true) :
    Calls Tryd.prog 16 #[.string s] w (RetVal w true (adGo h 7 0 : Nat)) := by
  obtain ⟨r, hr⟩ : ∃ r, adGo h 7 0 = r := ⟨_, rfl⟩
  rw [hr]
  have HR := Lib.hid hr
  have HT := Lib.hid hT
  have H0 := Lib.hid HC
  have H1 := Lib.hid HD
  have H6 := Lib.hid h6
  clear hr hT HC HD h6
  go_enter Tryd.func16, Tryd.ntmps16
  go_wp2_with fail
  refine (l04Table_any s _ hs).mono ?_
  rintro e w1 ⟨rfl, rfl⟩
  rw [HT.out]
  have HQ := Lib.hid (Below.refl w.heap.size w)
  go_wp2
  go_loopw [4] (fun i wr => ∃ d : Nat, d ≤ 6 ∧ i = .int .i64 (d : Nat) ∧ Hid (adGo h (7 - d) d = r) ∧ Hid (Below w.heap.size w wr)) (fun i _ => 7 - (intOf i).toNat)
  case atStart => exact ⟨0, Nat.zero_le _, rfl, HR, HQ⟩
  case round =>
    clear HQ
    obtain ⟨d, hd, rfl, HV, HQ⟩ := hrel
    have HV' := Lib.hid (show adGo h ((6 - d) + 1) d = r by rw [show 6 - d + 1 = 7 - d by omega]; exact HV.out)
    have HA := Lib.hid (H0.out · d hd)
    have HB := Lib.hid (H1.out · d hd)
    have hstop := fun hs => ad_stop HV'.out hs
    have hgo := fun hs => ad_go HV'.out hs
    have h6 := H6.out
    have hd6 : (h false d || h true d) = false → d < 6 := fun hf => by
      rcases Nat.lt_or_ge d 6 with hl | hl
      · exact hl
      · rw [show d = 6 by omega, h6] at hf; cases hf
    obtain ⟨x, hx⟩ : ∃ x, h false d = x := ⟨_, rfl⟩
    obtain ⟨y, hy⟩ : ∃ y, h true d = y := ⟨_, rfl⟩
    rw [hx] at HA hstop hgo hd6
    rw [hy] at HB hstop hgo hd6
    clear hx hy h6 HV
    cases x with
    | true =>
      obtain rfl := hstop rfl
      clear hstop hgo hd6 HV'
      go_wp2_with fail
      refine (HA.out _).mono ?_
      rintro e w2 ⟨rfl, hb2⟩
      have HQ2 := Lib.hid (bthen HQ.out hb2)
      clear hb2
      go_wp2
      go_ret2
      exact ⟨rfl, HQ2.out⟩
    | false =>
      cases y with
      | true =>
        obtain rfl := hstop rfl
        clear hstop hgo hd6 HV'
        go_wp2_with fail
        refine (HA.out _).mono ?_
        rintro e w2 ⟨rfl, hb2⟩
        have HQ2 := Lib.hid (bthen HQ.out hb2)
        clear hb2
        go_wp2_with fail
        refine (HB.out _).mono ?_
        rintro e w3 ⟨rfl, hb3⟩
        have HQ3 := Lib.hid (bthen HQ2.out hb3)
        clear hb3
        go_wp2
        go_ret2
        exact ⟨rfl, HQ3.out⟩
      | false =>
        have hlt := hd6 rfl
        have HN := Lib.hid (hgo rfl)
        clear hstop hgo hd6 HV'
        go_wp2_with fail
        refine (HA.out _).mono ?_
        rintro e w2 ⟨rfl, hb2⟩
        have HQ2 := Lib.hid (bthen HQ.out hb2)
        clear hb2
        go_wp2_with fail
        refine (HB.out _).mono ?_
        rintro e w3 ⟨rfl, hb3⟩
        have HQ3 := Lib.hid (bthen HQ2.out hb3)
        clear hb3
        go_wp2
        go_roundw
        case rel => exact ⟨d + 1, by omega, by go_num, Lib.hid (by rw [show 7 - (d + 1) = 6 - d by omega]; exact HN.out), HQ3⟩
        case measure => simp [intOf]; omega
end Go.Proofs.YtgfkaldndaepfaaDoor

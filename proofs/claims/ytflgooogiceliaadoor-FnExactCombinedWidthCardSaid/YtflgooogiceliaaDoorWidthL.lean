import Derived.Test.YtflgooogiceliaaDoorWidthS
/- The law FnExactCombinedWidth: what it walks. Condition: the text is shorter than the model's greatest length. -/
namespace Go.Proofs.YtflgooogiceliaaDoor
open Go.RowKit
set_option linter.unusedVariables false

set_option maxRecDepth 20000 in
set_option maxHeartbeats 1600000 in
theorem fnExactCombinedWidth_walk (s : ByteArray) (a : Option Addr) (len cap : Nat) (zs : List Int) (w : World) (hs : s.size ≤ maxLen) (hx : IsInts w a len zs) :
    Calls Tryd.prog 3 #[.string s, .slice a len cap] w fun e w' => e = .returned (.bool true) ∧ Below w.heap.size w w' := by
  by_cases hbig : 1048576 < s.size
  · have : (1048576 : Int) < (s.size : Int) := by omega
    go_enter Tryd.func3, Tryd.ntmps3
    go_wp2
    go_ret
    exact ⟨rfl, Below.refl _ _⟩
  · have h0 : ¬ (1048576 : Int) < (s.size : Int) := by omega
    by_cases hbig2 : 1048576 < len
    · have : (1048576 : Int) < (len : Int) := by omega
      go_enter Tryd.func3, Tryd.ntmps3
      go_wp2
      go_ret
      exact ⟨rfl, Below.refl _ _⟩
    · have h1 : ¬ (1048576 : Int) < (len : Int) := by omega
      have hb : len ≤ 1048576 := by omega
      have HX := Lib.hid hx
      have HI := Lib.hid (fun a1 c1 w (h : IsInts w a1 len zs) => combinedWidth_any s a1 len c1 zs w hs hb h)
      have HS := Lib.hid (fun a1 c1 w (h : IsInts w a1 len zs) => specCombinedWidth_any s a1 len c1 zs w hs hb h)
      obtain ⟨d, hd⟩ : ∃ d, cwOk s zs = d := ⟨_, rfl⟩
      obtain ⟨z, hz⟩ : ∃ z, cwV s zs = z := ⟨_, rfl⟩
      rw [hd, hz] at HI HS
      have HA := Lib.hid (At.start w)
      clear hd hz hbig hbig2 hx
      go_enter Tryd.func3, Tryd.ntmps3
      go_wp2_with fail
      refine (copy_at _ _ _ zs _ _ _ HA.out hb HX.out).mono ?_
      rintro e w1 ⟨a1, c1, rfl, h1'⟩
      have H1 := Lib.hid h1'
      clear h1'
      go_wp2_with fail
      refine (HS.out _ _ _ (H1.out.1.at 0 rfl)).mono ?_
      rintro e w2 ⟨rfl, hb2⟩
      have H2 := Lib.hid (H1.out.ret hb2)
      clear hb2
      go_wp2_with fail
      refine (copy_at _ _ _ zs _ _ _ H2.out hb HX.out).mono ?_
      rintro e w3 ⟨a3, c3, rfl, h3'⟩
      have H3 := Lib.hid h3'
      clear h3'
      go_wp2_with fail
      refine (HI.out _ _ _ (H3.out.1.at 0 rfl)).mono ?_
      rintro e w4 ⟨rfl, hb4⟩
      have H4 := Lib.hid (H3.out.ret hb4)
      clear hb4
      go_wp2_with fail
      refine (copy_at _ _ _ zs _ _ _ H4.out hb HX.out).mono ?_
      rintro e w5 ⟨a5, c5, rfl, h5'⟩
      have H5 := Lib.hid h5'
      clear h5'
      go_wp2_with fail
      refine (eq_at 1 0 zs _ _ _ _ _ _ _ _ _ H5.out (by omega) rfl rfl).mono ?_
      rintro e w6 ⟨rfl, h6⟩
      have H6 := Lib.hid h6
      clear h6
      go_wp2
      go_ret
      exact ⟨rfl, H6.out.2⟩
end Go.Proofs.YtflgooogiceliaaDoor

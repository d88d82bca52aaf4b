import Derived.Test.YtfageonhlmhhpaaAliasT
/- The law FnExactAliasTable: what it walks. -/
namespace Go.Proofs.Ytfageonhlmhhpaa
open Go.RowKit
set_option linter.unusedVariables false

set_option maxRecDepth 100000 in
set_option maxHeartbeats 1600000 in
theorem fnExactAliasTable_walk (a : Option Addr) (len cap : Nat) (ws : List Int) (w : World) (hx : IsInts w a len ws) :
    Calls Try.prog 6 #[.slice a len cap] w fun e w' => e = .returned (.bool true) ∧ Below w.heap.size w w' := by
  by_cases hbig : 1048576 < len
  · have : (1048576 : Int) < (len : Int) := by omega
    go_enter Try.func6, Try.ntmps6
    go_wp2
    go_ret
    exact ⟨rfl, Below.refl _ _⟩
  · have : ¬ (1048576 : Int) < (len : Int) := by omega
    obtain rfl := hx.1
    have hn1 := tabC_len ws (by omega)
    have hn2 := tabO_len ws (by omega)
    obtain ⟨C, hC⟩ : ∃ C, tabC ws = C := ⟨_, rfl⟩
    obtain ⟨O, hO⟩ : ∃ O, tabO ws = O := ⟨_, rfl⟩
    obtain ⟨d, hd⟩ : ∃ d, areW ws = d := ⟨_, rfl⟩
    rw [hC] at hn1
    rw [hO] at hn2
    have HC := Lib.hid (And.intro hC (And.intro hO hd))
    clear hC hO hd
    go_enter Try.func6, Try.ntmps6
    go_wp2_with fail
    refine (copy_at _ _ _ ws _ _ _ (At.start w) (by omega) hx).mono ?_
    rintro e w1 ⟨a1, c1, rfl, h1⟩
    have H1 := Lib.hid h1
    clear h1
    go_wp2_with fail
    refine (specAliasTable_any _ _ _ ws _ (show ws.length ≤ 1048576 by omega) (H1.out.1.at 0 rfl)).mono ?_
    rintro e w2 ⟨aC, cC, aO, cO, rfl, hl, hb⟩
    rw [HC.out.1, HC.out.2.1] at hl
    rw [HC.out.1, HC.out.2.1, HC.out.2.2]
    have H2 := Lib.hid (H1.out.join hb hl)
    clear hl hb
    go_wp2_with fail
    refine (copy_at _ _ _ ws _ _ _ H2.out (by omega) hx).mono ?_
    rintro e w3 ⟨a3, c3, rfl, h3⟩
    have H3 := Lib.hid h3
    clear h3
    go_wp2_with fail
    refine (aliasTable_any _ _ _ ws _ (show ws.length ≤ 1048576 by omega) (H3.out.1.at 0 rfl)).mono ?_
    rintro e w4 ⟨aC2, cC2, aO2, cO2, rfl, hl, hb⟩
    rw [HC.out.1, HC.out.2.1] at hl
    rw [HC.out.1, HC.out.2.1, HC.out.2.2]
    have H4 := Lib.hid (H3.out.join hb hl)
    clear hl hb
    -- g0 g1 x0 w0 w1 a1
    go_wp2_with fail
    refine (eq_at 0 3 C _ _ _ _ _ _ _ _ _ H4.out (by omega) rfl rfl).mono ?_
    rintro e w5 ⟨rfl, h5⟩
    have H5 := Lib.hid h5
    clear h5
    go_wp2_with fail
    refine (eq_at 1 4 O _ _ _ _ _ _ _ _ _ H5.out (by omega) rfl rfl).mono ?_
    rintro e w6 ⟨rfl, h6⟩
    have H6 := Lib.hid h6
    clear h6
    go_wp2_with fail
    refine (copy_at _ _ _ ws _ _ _ H6.out (by omega) hx).mono ?_
    rintro e w7 ⟨a7, c7, rfl, h7⟩
    have H7 := Lib.hid h7
    clear h7
    -- x7 g0 g1 x0 w0 w1 a1
    go_wp2_with fail
    refine (eq_at 3 0 ws _ _ _ _ _ _ _ _ _ H7.out (by omega) rfl rfl).mono ?_
    rintro e w8 ⟨rfl, h8⟩
    have H8 := Lib.hid h8
    clear h8
    go_wp2_with fail
    refine (mark_at 3 ws _ _ _ _ _ _ _ H8.out (by omega) (by omega) (by omega) rfl).mono ?_
    rintro e w9 ⟨rfl, h9⟩
    have H9 := Lib.hid h9
    clear h9
    go_wp2_with fail
    refine (eq_at 1 4 C _ _ _ _ _ _ _ _ _ H9.out (by omega) rfl rfl).mono ?_
    rintro e w10 ⟨rfl, h10⟩
    have H10 := Lib.hid h10
    clear h10
    go_wp2_with fail
    refine (eq_at 2 5 O _ _ _ _ _ _ _ _ _ H10.out (by omega) rfl rfl).mono ?_
    rintro e w11 ⟨rfl, h11⟩
    have H11 := Lib.hid h11
    clear h11
    go_wp2_with fail
    refine (mark_at 1 C _ _ _ _ _ _ _ H11.out (by omega) (by omega) (by omega) rfl).mono ?_
    rintro e w12 ⟨rfl, h12⟩
    have H12 := Lib.hid h12
    clear h12
    go_wp2_with fail
    refine (mark_at 2 O _ _ _ _ _ _ _ H12.out (by omega) (by omega) (by omega) rfl).mono ?_
    rintro e w13 ⟨rfl, h13⟩
    have H13 := Lib.hid h13
    clear h13
    go_wp2_with fail
    refine (held_at 1 _ _ _ _ _ _ _ H13.out (by omega) (by omega) (by omega) rfl).mono ?_
    rintro e w14 ⟨rfl, h14⟩
    have H14 := Lib.hid h14
    clear h14
    go_wp2_with fail
    refine (held_at 2 _ _ _ _ _ _ _ H14.out (by omega) (by omega) (by omega) rfl).mono ?_
    rintro e w15 ⟨rfl, h15⟩
    have H15 := Lib.hid h15
    clear h15
    go_wp2_with fail
    refine (copy_at _ _ _ ws _ _ _ H15.out (by omega) hx).mono ?_
    rintro e w16 ⟨a16, c16, rfl, h16⟩
    have H16 := Lib.hid h16
    clear h16
    go_wp2_with fail
    refine (aliasTable_any _ _ _ ws _ (show ws.length ≤ 1048576 by omega) (H16.out.1.at 0 rfl)).mono ?_
    rintro e w17 ⟨aC3, cC3, aO3, cO3, rfl, hl, hb⟩
    rw [HC.out.1, HC.out.2.1] at hl
    rw [HC.out.1, HC.out.2.1, HC.out.2.2]
    have H17 := Lib.hid (H16.out.join hb hl)
    clear hl hb
    -- h0 h1 x16 x7 g0 g1 x0 w0 w1 a1
    go_wp2_with fail
    refine (eq_at 0 7 C _ _ _ _ _ _ _ _ _ H17.out (by omega) rfl rfl).mono ?_
    rintro e w18 ⟨rfl, h18⟩
    have H18 := Lib.hid h18
    clear h18
    go_wp2_with fail
    refine (eq_at 1 8 O _ _ _ _ _ _ _ _ _ H18.out (by omega) rfl rfl).mono ?_
    rintro e w19 ⟨rfl, h19⟩
    have H19 := Lib.hid h19
    clear h19
    go_wp2_with fail
    refine (held_at 4 _ _ _ _ _ _ _ H19.out (by omega) (by omega) (by omega) rfl).mono ?_
    rintro e w20 ⟨rfl, h20⟩
    have H20 := Lib.hid h20
    clear h20
    go_wp2_with fail
    refine (held_at 5 _ _ _ _ _ _ _ H20.out (by omega) (by omega) (by omega) rfl).mono ?_
    rintro e w21 ⟨rfl, h21⟩
    have H21 := Lib.hid h21
    clear h21
    go_wp2_with fail
    go_ret
    exact ⟨rfl, H21.out.2⟩

end Go.Proofs.Ytfageonhlmhhpaa

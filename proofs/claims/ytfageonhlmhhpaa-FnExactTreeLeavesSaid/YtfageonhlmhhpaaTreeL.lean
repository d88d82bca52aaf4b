import Derived.Test.YtfageonhlmhhpaaTree
/- The law FnExactTreeLeaves: what it walks. -/
namespace Go.Proofs.Ytfageonhlmhhpaa
open Go.RowKit
set_option linter.unusedVariables false

theorem lvls_row (ws : List Int) (k d : Nat) (r : Rw) (rs : List Rw) (h : rs.map Rw.zs = lvls ws k d) (hr : r ∈ rs) : r.zs.length ≤ ws.length := by
  have : r.zs ∈ lvls ws k d := by rw [← h]; exact List.mem_map_of_mem hr
  simp only [lvls, List.mem_map] at this
  obtain ⟨j, _, e⟩ := this
  rw [← e]
  exact lvlTo_len _ _ _ _

theorem retTr_no {w w' : World} {ws : List Int} {e : Ending} (h : treeOk ws = false) (hr : RetTr w ws e w') : e = .returned (.tuple #[.slice none 0 0, .bool false]) ∧ Below w.heap.size w w' := by
  rcases hr with h1 | h1
  · exact h1.2
  · rw [h] at h1; cases h1.1
theorem retTr_yes {w w' : World} {ws : List Int} {e : Ending} (h : treeOk ws = true) (hr : RetTr w ws e w') : ∃ go co rs, e = .returned (.tuple #[.slice (some ⟨go, 0, none⟩) rs.length co, .bool true]) ∧ rs.map Rw.zs = treeL ws ∧ OwnAt w w' (llO go co rs) := by
  rcases hr with h1 | h1
  · rw [h] at h1; cases h1.1
  · exact h1.2

set_option maxRecDepth 100000 in
set_option maxHeartbeats 3200000 in
theorem fnExactTreeLeaves_walk (a : Option Addr) (len cap : Nat) (ws : List Int) (w : World) (hx : IsInts w a len ws) :
    Calls Try.prog 7 #[.slice a len cap] w fun e w' => e = .returned (.bool true) ∧ Below w.heap.size w w' := by
  by_cases hbig : 1048576 < len
  · have : (1048576 : Int) < (len : Int) := by omega
    go_enter Try.func7, Try.ntmps7
    go_wp2
    go_ret
    exact ⟨rfl, Below.refl _ _⟩
  · have : ¬ (1048576 : Int) < (len : Int) := by omega
    obtain rfl := hx.1
    have hb : ws.length ≤ 1048576 := by omega
    cases hok : treeOk ws with
    | false =>
      have HK := Lib.hid hok
      clear hok
      go_enter Try.func7, Try.ntmps7
      go_wp2_with fail
      refine (copy_own _ _ _ ws _ _ _ (OwnAt.start w) hb hx).mono ?_
      rintro e w1 ⟨r1, rfl, hz1, h1⟩
      have H1 := Lib.hid (And.intro hz1 h1)
      have hi1 := h1.1.isInts 0 rfl
      rw [hz1] at hi1
      clear h1 hz1
      go_wp2_with fail
      refine (specTreeLeaves_any _ _ _ ws _ hb hi1).mono ?_
      intro e w2 hr
      obtain ⟨rfl, hb2⟩ := retTr_no HK.out hr
      clear hr
      have H2 := Lib.hid (H1.out.2.ret hb2)
      clear hb2 hi1
      go_wp2_with fail
      refine (copy_own _ _ _ ws _ _ _ H2.out hb hx).mono ?_
      rintro e w3 ⟨r3, rfl, hz3, h3⟩
      have H3 := Lib.hid (And.intro hz3 h3)
      have hi3 := h3.1.isInts 0 rfl
      rw [hz3] at hi3
      clear h3 hz3
      go_wp2_with fail
      refine (treeLeaves_any _ _ _ ws _ hb hi3).mono ?_
      intro e w4 hr
      obtain ⟨rfl, hb4⟩ := retTr_no HK.out hr
      clear hr
      have H4 := Lib.hid (H3.out.2.ret hb4)
      clear hb4 hi3
      go_wp2_with fail
      refine (eqSS_nil _).mono ?_
      rintro e w' ⟨rfl, rfl⟩
      go_wp2_with fail
      refine (copy_own _ _ _ ws _ _ _ H4.out hb hx).mono ?_
      rintro e w5 ⟨r5, rfl, hz5, h5⟩
      have H5 := Lib.hid (And.intro hz5 h5)
      clear h5 hz5
      go_wp2_with fail
      refine (eq_own 1 0 r3 r5 _ _ _ _ H5.out.2 (by rw [H3.out.1]) (by omega) (H3.out.1.trans H5.out.1.symm) rfl rfl).mono ?_
      rintro e w6 ⟨rfl, h6⟩
      have H6 := Lib.hid h6
      clear h6
      go_wp2_with fail
      have hm := mark_own 1 r3 1 w w6 _ H6.out (by rw [H3.out.1]; exact hb) (by omega) (by omega) rfl
      rw [H3.out.1] at hm
      refine hm.mono ?_
      rintro e w7 ⟨rfl, h7⟩
      have H7 := Lib.hid h7
      clear h7 hm
      go_wp2_with fail
      refine (eqSS_nil _).mono ?_
      rintro e w' ⟨rfl, rfl⟩
      go_wp2_with fail
      refine (markSS_nil _ _).mono ?_
      rintro e w' ⟨rfl, rfl⟩
      go_wp2_with fail
      refine (heldSS_nil _ _).mono ?_
      rintro e w' ⟨rfl, rfl⟩
      go_wp2_with fail
      refine (copy_own _ _ _ ws _ _ _ H7.out hb hx).mono ?_
      rintro e w8 ⟨r8, rfl, hz8, h8⟩
      have H8 := Lib.hid (And.intro hz8 h8)
      have hi8 := h8.1.isInts 0 rfl
      rw [hz8] at hi8
      clear h8 hz8
      go_wp2_with fail
      refine (treeLeaves_any _ _ _ ws _ hb hi8).mono ?_
      intro e w9 hr
      obtain ⟨rfl, hb9⟩ := retTr_no HK.out hr
      clear hr
      have H9 := Lib.hid (H8.out.2.ret hb9)
      clear hb9 hi8
      go_wp2_with fail
      refine (eqSS_nil _).mono ?_
      rintro e w' ⟨rfl, rfl⟩
      go_wp2_with fail
      refine (heldSS_nil _ _).mono ?_
      rintro e w' ⟨rfl, rfl⟩
      go_wp2_with fail
      go_ret
      exact ⟨rfl, H9.out.2⟩
    | true =>
      have hlv : 0 ≤ levelOf (totalR ws) := by simpa [treeOk] using hok
      obtain ⟨k, hk, hl, _, _, hn16, _⟩ := dy_level hb hlv
      have htl : treeL ws = lvls ws k (k + 1) := by unfold treeL; rw [hl]; rfl
      have hnl : (treeL ws).length ≤ 13 := by rw [htl]; simp [lvls]; omega
      have HK := Lib.hid (And.intro hok (And.intro htl hnl))
      clear hok hlv hl htl hnl
      have hrow : ∀ rs : List Rw, rs.map Rw.zs = treeL ws → rs.length ≤ 13 ∧ ∀ r ∈ rs, r.zs.length ≤ 1048576 := fun rs h => by
        have h1 := congrArg List.length h
        rw [List.length_map] at h1
        refine ⟨by rw [h1]; exact HK.out.2.2, fun r hr => ?_⟩
        have := lvls_row ws k (k + 1) r rs (by rw [h]; exact HK.out.2.1) hr
        omega
      have HR := Lib.hid hrow
      clear hrow
      go_enter Try.func7, Try.ntmps7
      go_wp2_with fail
      refine (copy_own _ _ _ ws _ _ _ (OwnAt.start w) hb hx).mono ?_
      rintro e w1 ⟨r1, rfl, hz1, h1⟩
      have H1 := Lib.hid (And.intro hz1 h1)
      have hi1 := h1.1.isInts 0 rfl
      rw [hz1] at hi1
      clear h1 hz1
      go_wp2_with fail
      refine (specTreeLeaves_any _ _ _ ws _ hb hi1).mono ?_
      intro e w2 hr
      obtain ⟨gw, cw, rw', rfl, hrw, hO2⟩ := retTr_yes HK.out.1 hr
      clear hr
      have H2 := Lib.hid ((H1.out.2.join hO2.2 hO2.1).perm (List.perm_append_comm (l₁ := llO gw cw rw') (l₂ := [r1.o])))
      have HW := Lib.hid hrw
      clear hO2 hi1 hrw
      go_wp2_with fail
      refine (copy_own _ _ _ ws _ _ _ H2.out hb hx).mono ?_
      rintro e w3 ⟨r3, rfl, hz3, h3⟩
      have H3 := Lib.hid (And.intro hz3 h3)
      have hi3 := h3.1.isInts 0 rfl
      rw [hz3] at hi3
      clear h3 hz3
      go_wp2_with fail
      refine (treeLeaves_any _ _ _ ws _ hb hi3).mono ?_
      intro e w4 hr
      obtain ⟨gg, cg, rg, rfl, hrg, hO4⟩ := retTr_yes HK.out.1 hr
      clear hr
      have H4 := Lib.hid ((H3.out.2.join hO4.2 hO4.1).perm (List.perm_append_comm_assoc (llO gg cg rg) [r3.o, r1.o] (llO gw cw rw')))
      have HG := Lib.hid hrg
      have hgn := (HR.out rg hrg).1
      have hgw : rg.length = rw'.length := by
        have := congrArg List.length (hrg.trans HW.out.symm)
        simpa using this
      clear hO4 hi3 hrg
      rw [hgw] at hgn ⊢
      go_wp2_with fail
      refine (eqSS_own rw'.length gg cg gw cw rg rw' _ _ _ _ _ H4.out (List.perm_append_comm_assoc [r3.o, r1.o] (llO gg cg rg) (llO gw cw rw')) (by rw [← List.append_assoc]; exact List.perm_append_comm) hgw (by omega) (HR.out rg HG.out).2 (HG.out.trans HW.out.symm)).mono ?_
      rintro e w5 ⟨rfl, h5⟩
      have H5 := Lib.hid h5
      clear h5
      go_wp2_with fail
      refine (copy_own _ _ _ ws _ _ _ H5.out hb hx).mono ?_
      rintro e w6 ⟨r6, rfl, hz6, h6⟩
      have H6 := Lib.hid (And.intro hz6 h6)
      clear h6 hz6
      go_wp2_with fail
      refine (eq_own 1 0 r3 r6 _ _ _ _ H6.out.2 (by rw [H3.out.1]) (by omega) (H3.out.1.trans H6.out.1.symm) rfl rfl).mono ?_
      rintro e w7 ⟨rfl, h7⟩
      have H7 := Lib.hid h7
      clear h7
      go_wp2_with fail
      have hm := mark_own 1 r3 1 w w7 _ H7.out (by rw [H3.out.1]; exact hb) (by omega) (by omega) rfl
      rw [H3.out.1] at hm
      refine hm.mono ?_
      rintro e w8 ⟨rfl, h8⟩
      obtain ⟨r3', hr3'⟩ : ∃ r, r = (⟨r3.g, r3.c, marks (1 : Int).toNat ws.length⟩ : Rw) := ⟨_, rfl⟩
      have h8' : OwnAt w w8 ([r6.o, r3'.o, r1.o] ++ (llO gg cg rg ++ llO gw cw rw')) := by rw [hr3']; exact h8
      have H8 := Lib.hid h8'
      clear h8 hm h8' hr3'
      go_wp2_with fail
      refine (eqSS_own rw'.length gg cg gw cw rg rw' _ _ _ _ _ H8.out (List.perm_append_comm_assoc [r6.o, r3'.o, r1.o] (llO gg cg rg) (llO gw cw rw')) (by rw [← List.append_assoc]; exact List.perm_append_comm) hgw (by omega) (HR.out rg HG.out).2 (HG.out.trans HW.out.symm)).mono ?_
      rintro e w9 ⟨rfl, h9⟩
      have H9 := Lib.hid (h9.perm (List.perm_append_comm_assoc [r6.o, r3'.o, r1.o] (llO gg cg rg) (llO gw cw rw')))
      clear h9
      have hlz := lenZ_bd rg (HR.out rg HG.out).2
      go_wp2_with fail
      refine (markSS_own rw'.length gg cg rg 1 _ _ _ H9.out hgw (by omega) (HR.out rg HG.out).2 (by omega) (by omega)).mono ?_
      rintro e w10 ⟨rfl, h10⟩
      have H10 := Lib.hid h10
      clear h10
      go_wp2_with fail
      refine (heldSS_own rw'.length gg cg rg 1 _ _ _ _ H10.out (List.Perm.refl _) hgw (by omega) (HR.out rg HG.out).2 (by omega) (by omega)).mono ?_
      rintro e w11 ⟨rfl, h11⟩
      have H11 := Lib.hid h11
      clear h11
      go_wp2_with fail
      refine (copy_own _ _ _ ws _ _ _ H11.out hb hx).mono ?_
      rintro e w12 ⟨r12, rfl, hz12, h12⟩
      have hi12 := h12.1.isInts 0 rfl
      rw [hz12] at hi12
      have H12 := Lib.hid h12
      clear h12 hz12
      go_wp2_with fail
      refine (treeLeaves_any _ _ _ ws _ hb hi12).mono ?_
      intro e w13 hr
      obtain ⟨gh, ch, rh, rfl, hrh, hO13⟩ := retTr_yes HK.out.1 hr
      clear hr
      have H13 := Lib.hid (H12.out.join hO13.2 hO13.1)
      have HH := Lib.hid hrh
      have hhw : rh.length = rw'.length := by
        have := congrArg List.length (hrh.trans HW.out.symm)
        simpa using this
      clear hO13 hi12 hrh
      rw [hhw]
      go_wp2_with fail
      refine (eqSS_own rw'.length gh ch gw cw rh rw' _ _ _ _ (llO gh ch rh ++ (r12.o :: (llO gg cg (markR 1 rg) ++ [r6.o, r3'.o, r1.o]))) H13.out (List.Perm.refl _) (by
        have := List.perm_append_comm (l₁ := llO gh ch rh ++ (r12.o :: (llO gg cg (markR 1 rg) ++ [r6.o, r3'.o, r1.o]))) (l₂ := llO gw cw rw')
        simpa [List.append_assoc] using this) hhw (by omega) (HR.out rh HH.out).2 (HH.out.trans HW.out.symm)).mono ?_
      rintro e w14 ⟨rfl, h14⟩
      have H14 := Lib.hid h14
      clear h14
      go_wp2_with fail
      refine (heldSS_own rw'.length gg cg rg 1 _ _ _ (llO gh ch rh ++ (r12.o :: ([r6.o, r3'.o, r1.o] ++ llO gw cw rw'))) H14.out (by
        have := List.perm_append_comm_assoc (llO gh ch rh ++ [r12.o]) (llO gg cg (markR 1 rg)) ([r6.o, r3'.o, r1.o] ++ llO gw cw rw')
        simpa [List.append_assoc] using this) hgw (by omega) (HR.out rg HG.out).2 (by omega) (by omega)).mono ?_
      rintro e w15 ⟨rfl, h15⟩
      have H15 := Lib.hid h15
      clear h15
      go_wp2_with fail
      go_ret
      exact ⟨rfl, H15.out.2⟩
end Go.Proofs.Ytfageonhlmhhpaa

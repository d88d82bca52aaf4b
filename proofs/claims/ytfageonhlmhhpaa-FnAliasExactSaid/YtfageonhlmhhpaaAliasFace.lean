import Derived.Test.YtfageonhlmhhpaaAliasT
/- The face of a column at a level: the program's function and the reference's return the same; the law FnExactAliasFace. -/
namespace Go.Proofs.Ytfageonhlmhhpaa
open Go.RowKit
set_option linter.unusedVariables false

def faceOk (ws : List Int) (col lev : Int) : Bool := areW ws && (inR col 0 ((ws.length : Int) - 1) && inR lev 0 (ws.sum - 1))
def faceV (ws : List Int) (col lev : Int) : Int := if faceOk ws col lev then (if lev < (alT ws).ct.getD col.toNat 0 then col else (alT ws).ot.getD col.toNat 0) else 0
def RetF (w : World) (ws : List Int) (col lev : Int) (e : Ending) (w' : World) : Prop := e = .returned (.tuple #[.int .i64 (faceV ws col lev), .bool (faceOk ws col lev)]) ∧ Below w.heap.size w w'

theorem retF_no {w w' : World} {ws : List Int} {col lev : Int} (h : faceOk ws col lev = false) (hb : Below w.heap.size w w') : RetF w ws col lev (.returned (.tuple #[.int .i64 0, .bool false])) w' := by
  refine ⟨?_, hb⟩
  simp [faceV, h]

theorem retF_yes {w w' : World} {ws : List Int} {col lev v : Int} (h : faceOk ws col lev = true) (hv : faceV ws col lev = v) (hb : Below w.heap.size w w') : RetF w ws col lev (.returned (.tuple #[.int .i64 v, .bool true])) w' := by
  refine ⟨?_, hb⟩
  rw [h, hv]

set_option maxHeartbeats 800000 in
theorem aliasFace_any (a : Option Addr) (len cap : Nat) (ws : List Int) (col lev : Int) (w : World) (hb : len ≤ 1048576) (hx : IsInts w a len ws) :
    Calls Try.prog 17 #[.slice a len cap, .int .i64 col, .int .i64 lev] w (RetF w ws col lev) := by
  obtain rfl := hx.1
  cases h : areW ws with
  | false =>
    have H := Lib.hid (show faceOk ws col lev = false by simp [faceOk, h])
    have H0 := Lib.hid h
    clear h
    go_enter Try.func17, Try.ntmps17
    go_wp2_with fail
    refine (areWeights_any _ _ _ ws _ (by omega) hx).mono ?_
    rintro e w1 ⟨rfl, hb1⟩
    rw [H0.out]
    go_wp2_with fail
    go_ret2
    exact retF_no H.out hb1
  | true =>
    have h1 := areW_iff ws hb h
    have H0 := Lib.hid h
    have H1 := Lib.hid h1
    have hnl := h1.2.1
    have hs1 := h1.2.2.2.2.2.1
    have hs2 := h1.2.2.2.2.2.2
    obtain ⟨S, hS⟩ : ∃ S, ws.sum = S := ⟨_, rfl⟩
    rw [hS] at hs1 hs2
    have HS := Lib.hid hS
    clear h h1 hS
    cases hc : inR col 0 ((ws.length : Int) - 1) with
    | false =>
      have H := Lib.hid (show faceOk ws col lev = false by simp [faceOk, hc])
      have Hc := Lib.hid hc
      clear hc
      go_enter Try.func17, Try.ntmps17
      go_wp2_with fail
      refine (areWeights_any _ _ _ ws _ (by omega) hx).mono ?_
      rintro e w1 ⟨rfl, hb1⟩
      rw [H0.out]
      go_wp2_with fail
      refine (length_any _ _ _ _).mono ?_
      rintro e w' ⟨rfl, rfl⟩
      go_wp2_with fail
      refine (inRange_any _ _ _ _).mono ?_
      rintro e w' ⟨rfl, rfl⟩
      rw [Hc.out]
      go_wp2_with fail
      go_ret2
      exact retF_no H.out hb1
    | true =>
      cases hl : inR lev 0 (S - 1) with
      | false =>
        have H := Lib.hid (show faceOk ws col lev = false by simp [faceOk, HS.out, hl])
        have Hc := Lib.hid (And.intro hc hl)
        clear hc hl
        go_enter Try.func17, Try.ntmps17
        go_wp2_with fail
        refine (areWeights_any _ _ _ ws _ (by omega) hx).mono ?_
        rintro e w1 ⟨rfl, hb1⟩
        rw [H0.out]
        have hx1 := hx.below hb1
        go_wp2_with fail
        refine (length_any _ _ _ _).mono ?_
        rintro e w' ⟨rfl, rfl⟩
        go_wp2_with fail
        refine (inRange_any _ _ _ _).mono ?_
        rintro e w' ⟨rfl, rfl⟩
        rw [Hc.out.1]
        go_wp2_with fail
        refine (totalOf_any _ _ _ ws _ (by omega) hx1).mono ?_
        rintro e w' ⟨rfl, rfl⟩
        rw [H1.out.2.2.2.1, HS.out]
        go_wp2_with fail
        refine (inRange_any _ _ _ _).mono ?_
        rintro e w' ⟨rfl, rfl⟩
        rw [Hc.out.2]
        go_wp2_with fail
        go_ret2
        exact retF_no H.out hb1
      | true =>
        have H := Lib.hid (show faceOk ws col lev = true by simp [faceOk, HS.out, hl, hc, H0.out])
        have Hc := Lib.hid (And.intro hc hl)
        simp only [inR, Bool.and_eq_true, decide_eq_true_eq] at hc
        obtain ⟨k, rfl⟩ := Int.eq_ofNat_of_zero_le hc.1
        have hk0 : (0:Int) ≤ (k:Int) := hc.1
        have hkl : (k:Int) < (ws.length:Int) := by omega
        have hkn : k < ws.length := by omega
        clear hc hl
        have hI := alT_inv ws H1.out
        obtain ⟨x, hxe⟩ : ∃ x, (alT ws).ct.getD k 0 = x := ⟨_, rfl⟩
        obtain ⟨y, hye⟩ : ∃ y, (alT ws).ot.getD k 0 = y := ⟨_, rfl⟩
        have HI := Lib.hid (And.intro hI (And.intro hxe hye))
        clear hI hxe hye
        go_enter Try.func17, Try.ntmps17
        go_wp2_with fail
        refine (areWeights_any _ _ _ ws _ (by omega) hx).mono ?_
        rintro e w1 ⟨rfl, hb1⟩
        rw [H0.out]
        have hx1 := hx.below hb1
        go_wp2_with fail
        refine (length_any _ _ _ _).mono ?_
        rintro e w' ⟨rfl, rfl⟩
        go_wp2_with fail
        refine (inRange_any _ _ _ _).mono ?_
        rintro e w' ⟨rfl, rfl⟩
        rw [Hc.out.1]
        go_wp2_with fail
        refine (totalOf_any _ _ _ ws _ (by omega) hx1).mono ?_
        rintro e w' ⟨rfl, rfl⟩
        rw [H1.out.2.2.2.1, HS.out]
        go_wp2_with fail
        refine (inRange_any _ _ _ _).mono ?_
        rintro e w' ⟨rfl, rfl⟩
        rw [Hc.out.2]
        go_wp2_with fail
        refine (alias_any _ _ ws _ hx1 H1.out.1 H1.out.2.1 H1.out.2.2.1 H1.out.2.2.2.1 H1.out.2.2.2.2.2.1 H1.out.2.2.2.2.2.2).mono ?_
        rintro e w2 ⟨gc, go, cc, co, rfl, hO, hb2⟩
        rw [H1.out.2.2.2.1] at hO
        have c1 := hO.intAt 0 rfl k (by have := HI.out.1.ctl; show k < (alT ws).ct.length; omega)
        have c2 := hO.intAt 1 rfl k (by have := HI.out.1.otl; show k < (alT ws).ot.length; omega)
        rw [show (Al.run ws.sum ws.length (Al.start ws ws.sum)) = alT ws from rfl] at c1 c2
        rw [HI.out.2.1] at c1
        rw [HI.out.2.2] at c2
        have Hb2 := Lib.hid (bthen hb1 hb2)
        clear hO hb1 hb2
        by_cases hlx : lev < x
        · go_wp2
          go_ret2
          exact retF_yes H.out (by simp only [faceV, H.out, if_true]; rw [show (k : Int).toNat = k from rfl, HI.out.2.1, if_pos hlx]) Hb2.out
        · go_wp2
          go_ret2
          exact retF_yes H.out (by simp only [faceV, H.out, if_true]; rw [show (k : Int).toNat = k from rfl, HI.out.2.1, if_neg (by omega), HI.out.2.2]) Hb2.out

set_option maxHeartbeats 800000 in
theorem specAliasFace_any (a : Option Addr) (len cap : Nat) (ws : List Int) (col lev : Int) (w : World) (hb : len ≤ 1048576) (hx : IsInts w a len ws) :
    Calls Try.prog 18 #[.slice a len cap, .int .i64 col, .int .i64 lev] w (RetF w ws col lev) := by
  obtain rfl := hx.1
  have hz := totalR_iff ws hb
  cases h : areW ws with
  | false =>
    rw [h] at hz
    have ht : totalR ws = 0 := by simpa using hz
    have H := Lib.hid (show faceOk ws col lev = false by simp [faceOk, h])
    have H0 := Lib.hid ht
    clear h hz ht
    go_enter Try.func18, Try.ntmps18
    go_wp2_with fail
    refine (l06Total_any _ _ _ ws _ (by omega) hx).mono ?_
    rintro e w1 ⟨rfl, rfl⟩
    rw [H0.out]
    go_wp2_with fail
    go_ret2
    exact retF_no H.out (Below.refl _ _)
  | true =>
    have h1 := areW_iff ws hb h
    have H0 := Lib.hid h
    have H1 := Lib.hid h1
    have hnl := h1.2.1
    have hs1 := h1.2.2.2.2.2.1
    have hs2 := h1.2.2.2.2.2.2
    obtain ⟨S, hS⟩ : ∃ S, ws.sum = S := ⟨_, rfl⟩
    rw [hS] at hs1 hs2
    have HS := Lib.hid hS
    have hS0 : ¬ S = 0 := by omega
    clear h h1 hS hz
    cases hc : inR col 0 ((ws.length : Int) - 1) with
    | false =>
      have H := Lib.hid (show faceOk ws col lev = false by simp [faceOk, hc])
      have Hc := Lib.hid hc
      clear hc
      go_enter Try.func18, Try.ntmps18
      go_wp2_with fail
      refine (l06Total_any _ _ _ ws _ (by omega) hx).mono ?_
      rintro e w1 ⟨rfl, rfl⟩
      rw [H1.out.2.2.2.2.1, HS.out]
      go_wp2_with fail
      refine (l00In_any _ _ _ _).mono ?_
      rintro e w' ⟨rfl, rfl⟩
      rw [Hc.out]
      go_wp2_with fail
      go_ret2
      exact retF_no H.out (Below.refl _ _)
    | true =>
      cases hl : inR lev 0 (S - 1) with
      | false =>
        have H := Lib.hid (show faceOk ws col lev = false by simp [faceOk, HS.out, hl])
        have Hc := Lib.hid (And.intro hc hl)
        clear hc hl
        go_enter Try.func18, Try.ntmps18
        go_wp2_with fail
        refine (l06Total_any _ _ _ ws _ (by omega) hx).mono ?_
        rintro e w1 ⟨rfl, rfl⟩
        rw [H1.out.2.2.2.2.1, HS.out]
        go_wp2_with fail
        refine (l00In_any _ _ _ _).mono ?_
        rintro e w' ⟨rfl, rfl⟩
        rw [Hc.out.1]
        go_wp2_with fail
        refine (l00In_any _ _ _ _).mono ?_
        rintro e w' ⟨rfl, rfl⟩
        rw [Hc.out.2]
        go_wp2_with fail
        go_ret2
        exact retF_no H.out (Below.refl _ _)
      | true =>
        have H := Lib.hid (show faceOk ws col lev = true by simp [faceOk, HS.out, hl, hc, H0.out])
        have Hc := Lib.hid (And.intro hc hl)
        simp only [inR, Bool.and_eq_true, decide_eq_true_eq] at hc
        obtain ⟨k, rfl⟩ := Int.eq_ofNat_of_zero_le hc.1
        have hk0 : (0:Int) ≤ (k:Int) := hc.1
        have hkl : (k:Int) < (ws.length:Int) := by omega
        have hkn : k < ws.length := by omega
        clear hc hl
        have hI := alT_inv ws H1.out
        obtain ⟨x, hxe⟩ : ∃ x, (alT ws).ct.getD k 0 = x := ⟨_, rfl⟩
        obtain ⟨y, hye⟩ : ∃ y, (alT ws).ot.getD k 0 = y := ⟨_, rfl⟩
        have HI := Lib.hid (And.intro hI (And.intro hxe hye))
        clear hI hxe hye
        go_enter Try.func18, Try.ntmps18
        go_wp2_with fail
        refine (l06Total_any _ _ _ ws _ (by omega) hx).mono ?_
        rintro e w1 ⟨rfl, rfl⟩
        rw [H1.out.2.2.2.2.1, HS.out]
        go_wp2_with fail
        refine (l00In_any _ _ _ _).mono ?_
        rintro e w' ⟨rfl, rfl⟩
        rw [Hc.out.1]
        go_wp2_with fail
        refine (l00In_any _ _ _ _).mono ?_
        rintro e w' ⟨rfl, rfl⟩
        rw [Hc.out.2]
        go_wp2_with fail
        refine (l06Alias_any _ _ ws _ hx H1.out.1 H1.out.2.1 H1.out.2.2.1 H1.out.2.2.2.2.1 H1.out.2.2.2.2.2.1 H1.out.2.2.2.2.2.2).mono ?_
        rintro e w2 ⟨gc, go, cc, co, rfl, hO, hb2⟩
        rw [H1.out.2.2.2.2.1] at hO
        have c1 := hO.intAt 0 rfl k (by have := HI.out.1.ctl; show k < (alT ws).ct.length; omega)
        have c2 := hO.intAt 1 rfl k (by have := HI.out.1.otl; show k < (alT ws).ot.length; omega)
        rw [show (Al.run ws.sum ws.length (Al.start ws ws.sum)) = alT ws from rfl] at c1 c2
        rw [HI.out.2.1] at c1
        rw [HI.out.2.2] at c2
        have Hb2 := Lib.hid hb2
        clear hO hb2
        by_cases hlx : lev < x
        · go_wp2
          go_ret2
          exact retF_yes H.out (by simp only [faceV, H.out, if_true]; rw [show (k : Int).toNat = k from rfl, HI.out.2.1, if_pos hlx]) Hb2.out
        · go_wp2
          go_ret2
          exact retF_yes H.out (by simp only [faceV, H.out, if_true]; rw [show (k : Int).toNat = k from rfl, HI.out.2.1, if_neg (by omega), HI.out.2.2]) Hb2.out

set_option maxHeartbeats 800000 in
theorem fnExactAliasFace_walk (a : Option Addr) (len cap : Nat) (ws : List Int) (col lev : Int) (w : World) (hx : IsInts w a len ws) :
    Calls Try.prog 5 #[.slice a len cap, .int .i64 col, .int .i64 lev] w fun e w' => e = .returned (.bool true) ∧ Below w.heap.size w w' := by
  by_cases hbig : 1048576 < len
  · have : (1048576 : Int) < (len : Int) := by omega
    go_enter Try.func5, Try.ntmps5
    go_wp2
    go_ret
    exact ⟨rfl, Below.refl _ _⟩
  · have : ¬ (1048576 : Int) < (len : Int) := by omega
    obtain rfl := hx.1
    obtain ⟨v, hv⟩ : ∃ v, faceV ws col lev = v := ⟨_, rfl⟩
    obtain ⟨d, hd⟩ : ∃ d, faceOk ws col lev = d := ⟨_, rfl⟩
    have HC := Lib.hid (And.intro hv hd)
    clear hv hd
    go_enter Try.func5, Try.ntmps5
    go_wp2_with fail
    refine (copy_at _ _ _ ws _ _ _ (At.start w) (by omega) hx).mono ?_
    rintro e w1 ⟨a1, c1, rfl, h1⟩
    have H1 := Lib.hid h1
    clear h1
    go_wp2_with fail
    refine (specAliasFace_any _ _ _ ws _ _ _ (show ws.length ≤ 1048576 by omega) (H1.out.1.at 0 rfl)).mono ?_
    rintro e w2 ⟨rfl, hb⟩
    rw [HC.out.1, HC.out.2]
    have H2 := Lib.hid (H1.out.ret hb)
    clear hb
    go_wp2_with fail
    refine (copy_at _ _ _ ws _ _ _ H2.out (by omega) hx).mono ?_
    rintro e w3 ⟨a3, c3, rfl, h3⟩
    have H3 := Lib.hid h3
    clear h3
    go_wp2_with fail
    refine (aliasFace_any _ _ _ ws _ _ _ (show ws.length ≤ 1048576 by omega) (H3.out.1.at 0 rfl)).mono ?_
    rintro e w4 ⟨rfl, hb⟩
    rw [HC.out.1, HC.out.2]
    have H4 := Lib.hid (H3.out.ret hb)
    clear hb
    go_wp2_with fail
    refine (copy_at _ _ _ ws _ _ _ H4.out (by omega) hx).mono ?_
    rintro e w7 ⟨a7, c7, rfl, h7⟩
    have H7 := Lib.hid h7
    clear h7
    go_wp2_with fail
    refine (eq_at 1 0 ws _ _ _ _ _ _ _ _ _ H7.out (by omega) rfl rfl).mono ?_
    rintro e w8 ⟨rfl, h8⟩
    have H8 := Lib.hid h8
    clear h8
    go_wp2_with fail
    go_ret
    exact ⟨rfl, H8.out.2⟩
end Go.Proofs.Ytfageonhlmhhpaa

import Derived.Test.YtflgooogiceliaaDoorStrs
/- Bits of several streams combined by a table: the program's walk. Condition: the texts are shorter than the model's greatest length. -/
namespace Go.Proofs.YtflgooogiceliaaDoor
open Go.RowKit
set_option linter.unusedVariables false

def cbB (ss : List ByteArray) (t i : Nat) : Bool := by8 (ss.getD i E0) t == 49
/-- The place in the table that the first m streams spell at t. -/
def cbX (ss : List ByteArray) (t : Nat) : Nat → Nat
  | 0 => 0
  | m + 1 => cbX ss t m ||| (if cbB ss t m then 2 ^ m else 0)
theorem cbX_lt (ss : List ByteArray) (t : Nat) : ∀ m, cbX ss t m < 2 ^ m
  | 0 => by simp [cbX]
  | m + 1 => by
    have h := cbX_lt ss t m
    have e : 2 ^ (m + 1) = 2 * 2 ^ m := by rw [Nat.pow_succ]; omega
    rw [cbX]
    refine Nat.or_lt_two_pow (by omega) ?_
    split
    · have := Nat.two_pow_pos m; omega
    · have := Nat.two_pow_pos m; omega
def cbO (tb : ByteArray) (ss : List ByteArray) (T : Nat) : List Int := (List.range T).map fun t => byI tb (cbX ss t ss.length)
theorem cbO_succ (tb : ByteArray) (ss : List ByteArray) (T : Nat) : cbO tb ss (T + 1) = cbO tb ss T ++ [byI tb (cbX ss T ss.length)] := by simp [cbO, List.range_succ]
theorem cbO_len (tb : ByteArray) (ss : List ByteArray) (T : Nat) : (cbO tb ss T).length = T := by simp [cbO]
theorem cbO_ok (tb : ByteArray) (ss : List ByteArray) (T : Nat) : numOk (cbO tb ss T) := fun x hx => by
  obtain ⟨j, _, rfl⟩ := List.mem_map.1 hx
  exact byI_ok _ _
def n0S (ss : List ByteArray) : Nat := (ss.getD 0 E0).size
def cbOk (tb : ByteArray) (ss : List ByteArray) : Bool := isT tb && (decide ((ss.length : Int) = inpI tb) && allOk (n0S ss) ss)
def cbV (tb : ByteArray) (ss : List ByteArray) : List Int := if cbOk tb ss then cbO tb ss (n0S ss) else []
theorem Bd.box {w0 w : World} {b : Nat} {xs : List Int} {g : Nat} {t : TypeId} {v : Value} (h : Bd w0 w b xs [(g, boxO t v)]) : w.cell? ⟨g, 0, none⟩ = some v := by
  rcases h with ⟨h0, h⟩ | ⟨h0, g', c', h⟩
  · exact (h.1.boxAt 1 (b := g) (t := t) (v := v) rfl).1
  · exact (h.1.boxAt 2 (b := g) (t := t) (v := v) rfl).1
set_option maxHeartbeats 800000 in
theorem combLit_any (s : ByteArray) (p : Addr) (a : Option Addr) (len cap : Nat) (ss : List ByteArray) (w : World) (hs : s.size ≤ maxLen) (hl : 0 < len) (hp : w.cell? p = some (.slice a len cap)) (hps : p.spot = none) (hx : IsStrs w a len ss) :
    Calls Tryd.prog 68 #[.string s, .pointer (some p)] w (Ret w (.bool (badS (n0S ss) s))) := by
  cases hB : isB s with
  | false =>
    have HV := Lib.hid (And.intro hB (show badS (n0S ss) s = true by unfold badS; rw [hB]; rfl))
    clear hB hx
    go_enter Tryd.func68, Tryd.ntmps68
    go_wp2_with fail
    refine (isBits_any s _ hs).mono ?_
    rintro e w1 ⟨rfl, hb1⟩
    rw [HV.out.1]
    have Hb1 := Lib.hid hb1
    clear hb1
    go_wp2_with fail
    go_ret
    exact ⟨by rw [HV.out.2]; rfl, Hb1.out⟩
  | true =>
    have hs4 := isB_size hB
    have HV := Lib.hid (And.intro hB (show badS (n0S ss) s = decide (s.size ≠ n0S ss) by unfold badS; rw [hB]; rfl))
    have hpl := World.block_lt_of_cell? w _ hp
    obtain ⟨b, off, ha, hc⟩ := hx.at hl
    have hcl := World.block_lt_of_cell? w _ hc
    subst ha
    have HX := Lib.hid (And.intro hc hcl)
    obtain ⟨pb, po, ps⟩ := p
    simp only at hps
    subst hps
    clear hB hx hc hcl
    go_enter Tryd.func68, Tryd.ntmps68
    go_wp2_with fail
    refine (isBits_any s _ hs).mono ?_
    rintro e w1 ⟨rfl, hb1⟩
    rw [HV.out.1]
    have c0 := (hb1.cell (p := ⟨pb, po, none⟩) hpl).trans hp
    have c1 := (hb1.cell (p := ⟨b, off + 0, none⟩) HX.out.2).trans HX.out.1
    have Hb1 := Lib.hid hb1
    obtain ⟨n0, hn0⟩ : ∃ n0, n0S ss = n0 := ⟨_, rfl⟩
    have hsz : (ss.getD 0 E0).size = n0 := hn0
    obtain ⟨S, hS⟩ : ∃ S, ss.getD 0 E0 = S := ⟨_, rfl⟩
    rw [hS] at c1 hsz
    rw [hn0] at HV
    rw [Nat.add_zero] at c1
    have hl0 : (0:Int) < (len:Int) := by omega
    subst hsz
    have HN0 := Lib.hid hn0
    clear hb1 hS hn0 hp
    by_cases he : s.size = S.size
    · have e1 : ((s.size : Int) != (S.size : Int)) = false := by simp [he]
      have HE := Lib.hid (show decide (s.size ≠ S.size) = false by simp [he])
      clear he
      go_wp2_with fail
      go_ret
      exact ⟨by rw [HN0.out, HV.out.2, HE.out]; rfl, Hb1.out⟩
    · have e1 : ((s.size : Int) != (S.size : Int)) = true := by simp; omega
      have HE := Lib.hid (show decide (s.size ≠ S.size) = true by simp [he])
      clear he
      go_wp2_with fail
      go_ret
      exact ⟨by rw [HN0.out, HV.out.2, HE.out]; rfl, Hb1.out⟩
set_option maxHeartbeats 800000 in
theorem indexFuncS_any (bx : Nat) (a : Option Addr) (len cap : Nat) (ss : List ByteArray) (w : World) (hb : len < 4611686018427387904) (hz : ∀ j, (ss.getD j E0).size ≤ maxLen) (hp : w.cell? ⟨bx, 0, none⟩ = some (.slice a len cap)) (hx : IsStrs w a len ss) :
    Calls Tryd.prog 94 #[.slice a len cap, .func (.func 68) #[] #[.pointer (some ⟨bx, 0, none⟩)]] w (Ret w (.int .i64 (firstBad (n0S ss) ss))) := by
  have hpl := World.block_lt_of_cell? w _ hp
  have HP := Lib.hid hp
  have HX := Lib.hid hx
  have HZ := Lib.hid hz
  clear hp hx hz
  go_enter Tryd.func94, Tryd.ntmps94
  go_wp2
  go_loopw [8] (fun i wr => ∃ k : Nat, k ≤ len ∧ i = .int .i64 (k : Nat) ∧ Hid (∀ j, j < k → badS (n0S ss) (ss.getD j E0) = false) ∧ Hid (Below w.heap.size w wr)) (fun i _ => len - (intOf i).toNat)
  case atStart => exact ⟨0, Nat.zero_le _, rfl, Lib.hid (fun j hj => absurd hj (Nat.not_lt_zero j)), Lib.hid (Below.refl _ _)⟩
  case round =>
    obtain ⟨k, hk, rfl, HA, HQ⟩ := hrel
    by_cases hlt : k < len
    · have hxw := HX.out.below HQ.out
      obtain ⟨b, off, ha, h1⟩ := hxw.at hlt
      have hpw := (HQ.out.cell (p := ⟨bx, 0, none⟩) hpl).trans HP.out
      have HC := Lib.hid (combLit_any (ss.getD k E0) ⟨bx, 0, none⟩ a len cap ss wr (HZ.out k) (by omega) hpw rfl hxw)
      subst ha
      have hk0 : (0:Int) ≤ (k:Int) := by omega
      have hkl : (k:Int) < (len:Int) := by omega
      obtain ⟨S, hS⟩ : ∃ S, ss.getD k E0 = S := ⟨_, rfl⟩
      rw [hS] at h1 HC
      have HS := Lib.hid hS
      clear hS hxw hpw
      cases hbad : badS (n0S ss) S with
      | false =>
        rw [hbad] at HC
        have HN : Hid (∀ j, j < k + 1 → badS (n0S ss) (ss.getD j E0) = false) := Lib.hid (fun j hj => by
          by_cases e : j = k
          · subst e; rw [HS.out]; exact hbad
          · exact HA.out j (by omega))
        clear hbad
        go_wp2_with fail
        refine HC.out.mono ?_
        rintro e w1 ⟨rfl, hb1⟩
        have HQ2 := Lib.hid (bthen HQ.out hb1)
        clear hb1
        go_wp2
        go_roundw
        case rel => exact ⟨k + 1, by omega, by go_num, HN, HQ2⟩
        case measure => simp [intOf]; omega
      | true =>
        rw [hbad] at HC
        have hfb : firstBad (n0S ss) ss = (k : Int) := by
          have hkz : k < ss.length := by rw [HX.out.1]; exact hlt
          have : ss.findIdx? (badS (n0S ss)) = some k := by
            rw [List.findIdx?_eq_some_iff_getElem]
            refine ⟨hkz, ?_, fun j hj => ?_⟩
            · have h := HS.out
              simp only [List.getD, List.getElem?_eq_getElem hkz, Option.getD_some] at h
              rw [h]; exact hbad
            · have h := HA.out j hj
              simp only [List.getD, List.getElem?_eq_getElem (show j < ss.length by omega), Option.getD_some] at h
              rw [h]; simp
          unfold firstBad
          rw [this]
        have HF := Lib.hid hfb
        clear hbad hfb
        go_wp2_with fail
        refine HC.out.mono ?_
        rintro e w1 ⟨rfl, hb1⟩
        have HQ2 := Lib.hid (bthen HQ.out hb1)
        clear hb1
        go_wp2
        go_ret
        exact ⟨by rw [HF.out]; rfl, HQ2.out⟩
    · obtain rfl : k = len := by omega
      have hfb : firstBad (n0S ss) ss = -1 := by
        have : ss.findIdx? (badS (n0S ss)) = none := by
          rw [List.findIdx?_eq_none_iff]
          intro x hxm
          obtain ⟨j, hj, rfl⟩ := List.getElem_of_mem hxm
          have h := HA.out j (by have := HX.out.1; omega)
          simpa [List.getD, hj] using h
        unfold firstBad
        rw [this]
      have HF := Lib.hid hfb
      clear hfb
      go_wp2
      go_ret
      exact ⟨by rw [HF.out]; rfl, HQ.out⟩
theorem containsFuncS_any (bx : Nat) (a : Option Addr) (len cap : Nat) (ss : List ByteArray) (w : World) (hb : len < 4611686018427387904) (hz : ∀ j, (ss.getD j E0).size ≤ maxLen) (hp : w.cell? ⟨bx, 0, none⟩ = some (.slice a len cap)) (hx : IsStrs w a len ss) :
    Calls Tryd.prog 67 #[.slice a len cap, .func (.func 68) #[] #[.pointer (some ⟨bx, 0, none⟩)]] w (Ret w (.bool (!allOk (n0S ss) ss))) := by
  have HC := Lib.hid (indexFuncS_any bx a len cap ss w hb hz hp hx)
  have HN := Lib.hid (firstBad_neg (n0S ss) ss)
  clear hx hz hp
  go_enter Tryd.func67, Tryd.ntmps67
  go_wp2_with fail
  refine HC.out.mono ?_
  rintro e w1 ⟨rfl, hb1⟩
  have Hb1 := Lib.hid hb1
  clear hb1
  go_wp2_with fail
  go_ret
  exact ⟨by rw [← HN.out]; rfl, Hb1.out⟩
theorem lengthS_any (a : Option Addr) (len cap : Nat) (w : World) :
    Calls Tryd.prog 66 #[.slice a len cap] w fun e w' => e = .returned (.int .i64 len) ∧ w = w' := by
  go_enter Tryd.func66, Tryd.ntmps66
  go_wp2
  go_ret
  exact ⟨rfl, rfl⟩
theorem cbB_byte {ss : List ByteArray} {n t j : Nat} (h : allOk n ss = true) (hj : j < ss.length) (ht : t < n) : ∃ S : ByteArray, ss.getD j E0 = S ∧ S.size = n ∧ ∃ h0, (((S[t]'h0).toNat : Nat) : Int) = if cbB ss t j then 49 else 48 := by
  obtain ⟨h1, h2⟩ := allOk_at h hj
  refine ⟨_, rfl, h2, by rw [h2]; exact ht, ?_⟩
  rw [get_by8, (isB_at h1 (by rw [h2]; exact ht)).1]
  unfold bitOf cbB
  by_cases e : by8 (ss.getD j E0) t = 49
  · have h3 : (by8 (ss.getD j E0) t == 49) = true := by rw [e]; rfl
    rw [if_pos e, if_pos h3]; rfl
  · have h3 : (by8 (ss.getD j E0) t == 49) = false := beq_eq_false_iff_ne.2 e
    rw [if_neg e, if_neg (by rw [h3]; simp)]; rfl
end Go.Proofs.YtflgooogiceliaaDoor

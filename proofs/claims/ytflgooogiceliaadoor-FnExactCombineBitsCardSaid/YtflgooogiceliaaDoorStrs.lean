import Derived.Test.YtflgooogiceliaaDoorPairs
import Derived.Test.YtflgooogiceliaaDoorInputs
/- Slices of texts: copies, comparisons, sizes; whether all are bits of one length. No condition but the model's greatest length. -/
namespace Go.Proofs.YtflgooogiceliaaDoor
open Go.RowKit
set_option linter.unusedVariables false

def E0 : ByteArray := ⟨#[]⟩
/-- In the world w a slice of len texts at a reads as ss. -/
def IsStrs (w : World) (a : Option Addr) (len : Nat) (ss : List ByteArray) : Prop :=
  ss.length = len ∧ ∀ j, j < len → ∃ b off, a = some ⟨b, off, none⟩ ∧ w.cell? ⟨b, off + j, none⟩ = some (.string (ss.getD j E0))
theorem IsStrs.at {w a len ss} (h : IsStrs w a len ss) {j : Nat} (hj : j < len) : ∃ b off, a = some ⟨b, off, none⟩ ∧ w.cell? ⟨b, off + j, none⟩ = some (.string (ss.getD j E0)) := h.2 j hj
theorem IsStrs.below {w w' : World} {a len ss} (h : IsStrs w a len ss) (hb : Below w.heap.size w w') : IsStrs w' a len ss := by
  refine ⟨h.1, fun j hj => ?_⟩
  obtain ⟨b, off, ha, hc⟩ := h.2 j hj
  exact ⟨b, off, ha, (hb.cell (p := ⟨b, off + j, none⟩) (World.block_lt_of_cell? w _ hc)).trans hc⟩
def strV (ss : List ByteArray) : List Value := ss.map Value.string
theorem IsStrs.of_row {w w0 : World} {g c : Nat} {ss : List ByteArray} (h : OwnAt w0 w [(g, rowO 9 c (strV ss))]) : IsStrs w (some ⟨g, 0, none⟩) ss.length ss := by
  refine ⟨rfl, fun j hj => ⟨g, 0, rfl, ?_⟩⟩
  rw [Nat.zero_add, h.1.cellAt 0 (g := g) (e := 9) (cap := c) rfl j (by simpa [strV] using hj)]
  simp [strV, List.getD, hj]
theorem strs_ext {xs ys : List ByteArray} (hl : xs.length = ys.length) (h : ∀ j, j < xs.length → xs.getD j E0 = ys.getD j E0) : xs = ys := by
  apply List.ext_getElem hl
  intro i h1 h2
  have := h i h1
  simpa [List.getD, h1, h2] using this
def SzOk (len : Nat) (ss : List ByteArray) (z : Int) : Prop := 0 ≤ z → len ≤ 1048576 ∧ ∀ j, j < len → (ss.getD j E0).size ≤ 1048576
set_option maxHeartbeats 800000 in
theorem szStringS_any (a : Option Addr) (len cap : Nat) (ss : List ByteArray) (w : World) (hb : len ≤ maxLen) (hz : ∀ j, (ss.getD j E0).size ≤ maxLen) (hx : IsStrs w a len ss) :
    Calls Tryd.prog 21 #[.slice a len cap, .int .i64 1048576] w fun e w' => ∃ z : Int, e = .returned (.int .i64 z) ∧ Hid (SzOk len ss z) ∧ w' = w := by
  unfold maxLen at hb hz
  have HZ := Lib.hid hz
  have HX := Lib.hid hx
  clear hz hx
  by_cases hbig : len ≤ 1048576
  · have h0 : ¬ (1048576 : Int) - (len : Int) < 0 := by omega
    go_enter Tryd.func21, Tryd.ntmps21
    go_wp2
    go_loop [5, 1] (fun i v => ∃ (k : Nat) (z : Int), k ≤ len ∧ i = .int .i64 (k : Nat) ∧ v = .int .i64 z ∧ 0 ≤ z ∧ z ≤ 1048576 ∧ Hid (∀ j, j < k → (ss.getD j E0).size ≤ 1048576)) (fun i _ => len - (intOf i).toNat)
    case atStart => exact ⟨0, _, Nat.zero_le _, rfl, rfl, by omega, by omega, Lib.hid (fun j hj => absurd hj (Nat.not_lt_zero j))⟩
    case round =>
      obtain ⟨k, z, hk, rfl, rfl, hz0, hz1, HS⟩ := hrel
      by_cases hlt : k < len
      · obtain ⟨b, off, ha, hc⟩ := HX.out.at hlt
        subst ha
        have hk0 : (0:Int) ≤ (k:Int) := by omega
        have hki : (k:Int) < (len:Int) := by omega
        have hs := HZ.out k
        obtain ⟨S, hS⟩ : ∃ S, ss.getD k E0 = S := ⟨_, rfl⟩
        rw [hS] at hc hs
        have HSe := Lib.hid hS
        clear hS
        by_cases hneg : z - (S.size : Int) < 0
        · go_wp2
          go_ret
          exact ⟨-1, rfl, Lib.hid (show SzOk len ss (-1) from fun h => by omega), rfl⟩
        · have HN : Hid (∀ j, j < k + 1 → (ss.getD j E0).size ≤ 1048576) := Lib.hid (fun j hj => by
            by_cases e : j = k
            · subst e; rw [HSe.out]; omega
            · exact HS.out j (by omega))
          go_wp2
          go_round
          case rel => exact ⟨k + 1, _, by omega, by go_num, rfl, by omega, by omega, HN⟩
          case measure => simp [intOf]; omega
      · obtain rfl : k = len := by omega
        go_wp2
        go_ret
        exact ⟨z, rfl, Lib.hid (show SzOk k ss z from fun _ => ⟨hbig, HS.out⟩), rfl⟩
  · have h0 : (1048576 : Int) - (len : Int) < 0 := by omega
    go_enter Tryd.func21, Tryd.ntmps21
    go_wp2
    go_ret
    exact ⟨-1, rfl, Lib.hid (show SzOk len ss (-1) from fun h => by omega), rfl⟩
set_option maxHeartbeats 400000 in
theorem eqStringS_any (a a' : Option Addr) (len cap cap' : Nat) (ss : List ByteArray) (w : World) (hb : len < 4611686018427387904) (hx : IsStrs w a len ss) (hy : IsStrs w a' len ss) :
    Calls Tryd.prog 25 #[.slice a len cap, .slice a' len cap'] w (Ret w (.bool true)) := by
  go_enter Tryd.func25, Tryd.ntmps25
  go_wp2
  go_loopw [5] (fun i wr => ∃ k : Nat, k ≤ len ∧ i = .int .i64 k ∧ Hid (Below w.heap.size w wr)) (fun i _ => len - (intOf i).toNat)
  case atStart => exact ⟨0, Nat.zero_le _, rfl, Lib.hid (Below.refl _ _)⟩
  case round =>
    obtain ⟨k, hk, rfl, HQ⟩ := hrel
    by_cases hlt : k < len
    · obtain ⟨b, off, ha, h1⟩ := (hx.below HQ.out).at hlt
      obtain ⟨b', off', ha', h2⟩ := (hy.below HQ.out).at hlt
      obtain ⟨S, hS⟩ : ∃ S, ss.getD k E0 = S := ⟨_, rfl⟩
      rw [hS] at h1 h2
      subst ha ha'
      have hk0 : (0:Int) ≤ (k:Int) := by omega
      have hkl : (k:Int) < (len:Int) := by omega
      clear hS
      go_wp2_with fail
      go_quiet (fail)
      go_wp2
      go_roundw
      case rel => exact ⟨k + 1, by omega, by go_num, Lib.hid (bthen HQ.out (drewN_below _ _))⟩
      case measure => simp [intOf]; omega
    · go_wp2
      go_ret
      exact ⟨rfl, HQ.out⟩
def partS (ss : List ByteArray) (k n : Nat) : List ByteArray := ss.take k ++ List.replicate (n - k) E0
theorem partS_set (ss : List ByteArray) (k : Nat) (h : k < ss.length) : (strV (partS ss k ss.length)).set k (.string (ss.getD k E0)) = strV (partS ss (k + 1) ss.length) := by
  have hl : (ss.take k).length = k := by simp; omega
  unfold strV
  rw [← List.map_set]
  congr 1
  unfold partS
  have ht : ss.take (k + 1) = ss.take k ++ [ss.getD k E0] := by rw [List.take_succ_eq_append_getElem h]; simp [List.getD, h]
  rw [ht, List.set_append]
  simp only [hl, Nat.lt_irrefl, if_false, Nat.sub_self, List.append_assoc]
  congr 1
  rw [show ss.length - k = (ss.length - (k + 1)) + 1 from by omega, List.replicate_succ]
  simp
theorem zerosS (n : Nat) : (madeCells #[Value.string ⟨#[]⟩] n).toList = strV (List.replicate n E0) := by
  rw [toList_madeCells_one]; simp [strV, E0]
theorem partS_len (ss : List ByteArray) (k : Nat) (h : k ≤ ss.length) : (strV (partS ss k ss.length)).length = ss.length := by
  simp [strV, partS]; omega
set_option maxHeartbeats 800000 in
theorem toStringS_any (a : Option Addr) (len cap : Nat) (ss : List ByteArray) (w : World) (hb : len ≤ 1048576) (hx : IsStrs w a len ss) :
    Calls Tryd.prog 23 #[.slice a len cap] w (RetRow w 9 (strV ss)) := by
  obtain ⟨i0, hi, hz0, hz1, hz2⟩ := info_parts Tryd.infoStr
  obtain rfl := hx.1
  have Hm := Lib.hid (zerosS ss.length)
  have HX := Lib.hid hx
  clear hx
  go_enter Tryd.func23, Tryd.ntmps23
  go_wp2_with (at_make; refine wpList_make_full _ rfl _ _ 30 rfl w.heap.size 9 i0 (.string ⟨#[]⟩) 1 Tryd.underlying30 hi hz0 hz1 _ _ _ _ ss.length rfl rfl rfl rfl ?c1 ?c2 ?c3 ?_)
  case c1 => rw [hz2]; omega
  case c2 => unfold maxLen; omega
  case c3 => exact Nat.le_refl _
  intro w1 hown hgrow
  have hbw : Below w.heap.size w w1 := (Below.refl _ _).grown hgrow (Nat.le_refl _) (by simp)
  rw [Hm.out] at hown
  have H0 : Hid (OwnAt w w1 [(w.heap.size, rowO 9 ss.length (strV (partS ss 0 ss.length)))]) := Lib.hid ⟨Owns.ofRow (by simpa [partS] using hown), hbw⟩
  clear hgrow hown hbw hi hz0 hz1 hz2
  go_wp2
  go_loopw [4] (fun i wr => ∃ k : Nat, k ≤ ss.length ∧ i = .int .i64 k ∧ Hid (OwnAt w wr [(w.heap.size, rowO 9 ss.length (strV (partS ss k ss.length)))])) (fun i _ => ss.length - (intOf i).toNat)
  case atStart => exact ⟨0, Nat.zero_le _, rfl, H0⟩
  case round =>
    clear H0
    obtain ⟨k, hk, rfl, HO⟩ := hrel
    by_cases hlt : k < ss.length
    · obtain ⟨b, off, ha, h1⟩ := (HX.out.below HO.out.2).at hlt
      subst ha
      have hk0 : (0:Int) ≤ (k:Int) := by omega
      have hkl : (k:Int) < (ss.length:Int) := by omega
      have hc2 : (wr.cell? ⟨w.heap.size, k, none⟩).isSome = true := by
        rw [HO.out.1.cellAt 0 rfl k (by rw [partS_len _ _ hk]; exact hlt)]
        simp [partS_len _ _ hk, hlt]
      obtain ⟨ov, hov⟩ := Option.isSome_iff_exists.1 hc2
      have hfr := HO.out.1.frozenAt 0 rfl k
      have hst := HO.out.1.setRow 0 rfl k (.string (ss.getD k E0))
      have HN : Hid (OwnAt w (wr.setCell ⟨w.heap.size, k, none⟩ (.string (ss.getD k E0))) [(w.heap.size, rowO 9 ss.length (strV (partS ss (k + 1) ss.length)))]) := Lib.hid (by
        simp only [List.set_cons_zero] at hst
        rw [partS_set ss k hlt] at hst
        exact ⟨hst, HO.out.2.setCell (p := ⟨w.heap.size, k, none⟩) (Nat.le_refl _) _⟩)
      obtain ⟨S, hS⟩ : ∃ S, ss.getD k E0 = S := ⟨_, rfl⟩
      rw [hS] at h1 HN
      clear hst hS hc2
      go_wp2
      go_roundw
      case rel => exact ⟨k + 1, by omega, by go_num, HN⟩
      case measure => simp [intOf]; omega
    · obtain rfl : k = ss.length := by omega
      have hfin : partS ss ss.length ss.length = ss := by simp [partS]
      have HR : Hid (RetRow w 9 (strV ss) (.returned (.slice (some ⟨w.heap.size, 0, none⟩) ss.length ss.length)) wr) := Lib.hid ⟨w.heap.size, ss.length, by simp [strV], by have := HO.out; rwa [hfin] at this⟩
      clear hfin
      go_wp2
      go_ret
      exact HR.out
/-- A text is no bits, or of another length than the first. -/
def badS (n : Nat) (s : ByteArray) : Bool := !isB s || decide (s.size ≠ n)
def firstBad (n : Nat) (ss : List ByteArray) : Int := match ss.findIdx? (badS n) with | some i => (i : Int) | none => -1
def allOk (n : Nat) (ss : List ByteArray) : Bool := ss.all (fun s => !badS n s)
theorem firstBad_neg (n : Nat) (ss : List ByteArray) : decide ((0:Int) ≤ firstBad n ss) = !allOk n ss := by
  unfold firstBad
  cases h : ss.findIdx? (badS n) with
  | none =>
    rw [List.findIdx?_eq_none_iff] at h
    have : allOk n ss = true := by unfold allOk; rw [List.all_eq_true]; intro x hx; simpa using h x hx
    simp [this]
  | some i =>
    obtain ⟨hi', hp, _⟩ := List.findIdx?_eq_some_iff_getElem.1 h
    have : allOk n ss = false := by unfold allOk; rw [List.all_eq_false]; exact ⟨ss[i], List.getElem_mem hi', by simpa using hp⟩
    simp only [this]
    simp
theorem allOk_at {n : Nat} {ss : List ByteArray} (h : allOk n ss = true) {j : Nat} (hj : j < ss.length) : isB (ss.getD j E0) = true ∧ (ss.getD j E0).size = n := by
  unfold allOk at h
  rw [List.all_eq_true] at h
  have := h _ (List.getElem_mem hj)
  simp only [badS, Bool.not_or, Bool.not_not, Bool.and_eq_true, Bool.not_eq_true', decide_eq_false_iff_not, ne_eq, Decidable.not_not] at this
  simpa [List.getD, hj] using this
end Go.Proofs.YtflgooogiceliaaDoor

import Derived.Test.YtlckamnadddlmaaGreatDoorBitsX
/- Counting a pattern in a text of bits; the law FnExactCountPattern. -/
namespace Go.Proofs.YtlckamnadddlmaaGreatDoor
open Go.RowKit
set_option linter.unusedVariables false

def occ (s p : ByteArray) (i : Nat) : Bool := p.data.toList.isPrefixOf (s.data.toList.drop i)
def cntP (s p : ByteArray) (m : Nat) : Int := (((List.range m).filter (occ s p)).length : Int)
theorem cntP_succ (s p : ByteArray) (m : Nat) : cntP s p (m + 1) = cntP s p m + (if occ s p m then 1 else 0) := by
  unfold cntP
  rw [List.range_succ, List.filter_append, List.length_append]
  cases h : occ s p m <;> simp [h]
theorem cntP_bd (s p : ByteArray) (m : Nat) : 0 ≤ cntP s p m ∧ cntP s p m ≤ m := by
  unfold cntP
  have := List.length_filter_le (occ s p) (List.range m)
  simp at this
  omega
theorem size_list (s : ByteArray) : s.data.toList.length = s.size := by simp
theorem occ_short {s p : ByteArray} {i : Nat} (h : s.size < i + p.size) (hp : 1 ≤ p.size) : occ s p i = false := by
  cases ho : occ s p i with
  | false => rfl
  | true =>
    have h1 := (List.isPrefixOf_iff_prefix.1 ho).length_le
    rw [List.length_drop, size_list, size_list] at h1
    omega
theorem cntP_stop {s p : ByteArray} (hp : 1 ≤ p.size) (m : Nat) (h : s.size < m + p.size) : ∀ d, cntP s p (m + d) = cntP s p m
  | 0 => rfl
  | d + 1 => by
    rw [show m + (d + 1) = (m + d) + 1 from rfl, cntP_succ, cntP_stop hp m h d, occ_short (by omega) hp]
    simp
theorem occ_from (s p : ByteArray) (i : Nat) (hi : i ≤ s.size) : Lib.hasPrefix (s.extract i s.size).data.toList p.data.toList = occ s p i := by
  unfold Lib.hasPrefix occ
  congr 1
  rw [ByteArray.data_extract, Array.toList_extract]
  simp only [List.extract_eq_take_drop]
  exact List.take_of_length_le (by rw [List.length_drop, size_list]; omega)
theorem occ_eq (s p : ByteArray) (i : Nat) (hi : i + p.size ≤ s.size) : (s.extract i (i + p.size) = p) ↔ occ s p i = true := by
  unfold occ
  rw [List.isPrefixOf_iff_prefix, List.prefix_iff_eq_take, size_list]
  have e : (s.extract i (i + p.size)).data.toList = (s.data.toList.drop i).take p.size := by
    rw [ByteArray.data_extract, Array.toList_extract]
    simp only [List.extract_eq_take_drop]
    congr 1
    omega
  constructor
  · intro h
    rw [← e, h]
  · intro h
    rw [← e] at h
    cases hs : s.extract i (i + p.size) with
    | mk d => 
      cases p with
      | mk q =>
        rw [hs] at h
        congr 1
        exact (Array.toList_inj.1 h).symm

theorem bytes_inj {a b : ByteArray} (h : a.toList = b.toList) : a = b := by
  rw [Lib.toList_data, Lib.toList_data] at h
  cases a with
  | mk x => cases b with
    | mk y => congr 1; exact Array.toList_inj.1 h

def patOk (p : ByteArray) : Bool := isB p && inR p.size 1 6
theorem isPattern_any (p : ByteArray) (w : World) (hs : p.size ≤ maxLen) :
    Calls Tryz.prog 25 #[.string p] w (Ret w (.bool (patOk p))) := by
  cases hb : isB p with
  | false =>
    have hk : patOk p = false := by simp [patOk, hb]
    rw [hk]
    go_enter Tryz.func25, Tryz.ntmps25
    go_wp2_with fail
    refine (isBits_any p _ hs).mono ?_
    rintro e w1 ⟨rfl, hb1⟩
    rw [hb]
    go_wp2_with fail
    go_ret
    exact ⟨rfl, hb1⟩
  | true =>
    have hk : patOk p = inR p.size 1 6 := by simp [patOk, hb]
    rw [hk]
    have HB := Lib.hid hb
    clear hb hk
    go_enter Tryz.func25, Tryz.ntmps25
    go_wp2_with fail
    refine (isBits_any p _ hs).mono ?_
    rintro e w1 ⟨rfl, hb1⟩
    rw [HB.out]
    go_wp2_with fail
    refine (inRange_any _ _ _ _).mono ?_
    rintro e w' ⟨rfl, rfl⟩
    go_wp2_with fail
    go_ret
    exact ⟨rfl, hb1⟩
theorem l05Pattern_any (p : ByteArray) (w : World) (hs : p.size ≤ maxLen) :
    Calls Tryz.prog 41 #[.string p] w fun e w' => e = .returned (.bool (patOk p)) ∧ w = w' := by
  have hs' : p.size ≤ 9223372036854775807 := by unfold maxLen at hs; omega
  cases hb : isB p with
  | false =>
    have hk : patOk p = false := by simp [patOk, hb]
    rw [hk]
    go_enter Tryz.func41, Tryz.ntmps41
    go_wp2_with fail
    refine (l01Bits_any p _ hs).mono ?_
    rintro e w1 ⟨rfl, rfl⟩
    rw [hb]
    go_wp2_with fail
    go_ret
    exact ⟨rfl, rfl⟩
  | true =>
    have hk : patOk p = (decide ((1:Int) ≤ p.size) && decide ((p.size : Int) ≤ 6)) := by simp [patOk, hb, inR]
    rw [hk]
    have HB := Lib.hid hb
    clear hb hk
    by_cases h1 : (1:Int) ≤ p.size
    · by_cases h2 : (p.size : Int) ≤ 6
      · go_enter Tryz.func41, Tryz.ntmps41
        go_wp2_with fail
        refine (l01Bits_any p _ hs).mono ?_
        rintro e w1 ⟨rfl, rfl⟩
        rw [HB.out]
        go_wp2_with fail
        go_ret
        exact ⟨by simp [h1, h2], rfl⟩
      · go_enter Tryz.func41, Tryz.ntmps41
        go_wp2_with fail
        refine (l01Bits_any p _ hs).mono ?_
        rintro e w1 ⟨rfl, rfl⟩
        rw [HB.out]
        go_wp2_with fail
        go_ret
        exact ⟨by simp [h1], rfl⟩
    · go_enter Tryz.func41, Tryz.ntmps41
      go_wp2_with fail
      refine (l01Bits_any p _ hs).mono ?_
      rintro e w1 ⟨rfl, rfl⟩
      rw [HB.out]
      go_wp2_with fail
      go_ret
      exact ⟨by simp; omega, rfl⟩
def patAll (s p : ByteArray) : Bool := isB s && patOk p
def RetPn (w : World) (s p : ByteArray) (e : Ending) (w' : World) : Prop := e = .returned (.tuple #[.int .i64 (if patAll s p then cntP s p s.size else 0), .bool (patAll s p)]) ∧ Below w.heap.size w w'
theorem retPn_no {w w' : World} {s p : ByteArray} (h : patAll s p = false) (hb : Below w.heap.size w w') : RetPn w s p (.returned (.tuple #[.int .i64 0, .bool false])) w' := ⟨by rw [h]; rfl, hb⟩
theorem retPn_yes {w w' : World} {s p : ByteArray} {v : Int} (h : patAll s p = true) (hv : cntP s p s.size = v) (hb : Below w.heap.size w w') : RetPn w s p (.returned (.tuple #[.int .i64 v, .bool true])) w' := ⟨by rw [h, ← hv]; rfl, hb⟩
set_option maxHeartbeats 800000 in
theorem countPatternS_any (s p : ByteArray) (w : World) (hs : s.size ≤ maxLen) (hp : p.size ≤ maxLen) :
    Calls Tryz.prog 16 #[.string s, .string p] w (RetPn w s p) := by
  cases hb : isB s with
  | false =>
    have H := Lib.hid (show patAll s p = false by simp [patAll, hb])
    go_enter Tryz.func16, Tryz.ntmps16
    go_wp2_with fail
    refine (l01Bits_any s _ hs).mono ?_
    rintro e w1 ⟨rfl, rfl⟩
    rw [hb]
    go_wp2_with fail
    go_ret2
    exact retPn_no H.out (Below.refl _ _)
  | true =>
    have hsz := isB_size hb
    cases hk : patOk p with
    | false =>
      have H := Lib.hid (show patAll s p = false by simp [patAll, hk])
      have HB := Lib.hid (And.intro hb hk)
      clear hb hk
      go_enter Tryz.func16, Tryz.ntmps16
      go_wp2_with fail
      refine (l01Bits_any s _ hs).mono ?_
      rintro e w1 ⟨rfl, rfl⟩
      rw [HB.out.1]
      go_wp2_with fail
      refine (l05Pattern_any p _ hp).mono ?_
      rintro e w2 ⟨rfl, rfl⟩
      rw [HB.out.2]
      go_wp2_with fail
      go_ret2
      exact retPn_no H.out (Below.refl _ _)
    | true =>
      have H := Lib.hid (show patAll s p = true by simp [patAll, hk, hb])
      have hps : 1 ≤ p.size ∧ p.size ≤ 6 := by
        simp only [patOk, inR, Bool.and_eq_true, decide_eq_true_eq] at hk
        omega
      have HB := Lib.hid (And.intro hb hk)
      obtain ⟨hp1, hp6⟩ := hps
      clear hb hk
      go_enter Tryz.func16, Tryz.ntmps16
      go_wp2_with fail
      refine (l01Bits_any s _ hs).mono ?_
      rintro e w1 ⟨rfl, rfl⟩
      rw [HB.out.1]
      go_wp2_with fail
      refine (l05Pattern_any p _ hp).mono ?_
      rintro e w2 ⟨rfl, rfl⟩
      rw [HB.out.2]
      go_wp2_with fail
      go_loop [7, 6] (fun i v => ∃ k : Nat, k ≤ s.size ∧ i = .int .i64 k ∧ v = .int .i64 (cntP s p k)) (fun i _ => s.size - (intOf i).toNat)
      case atStart => exact ⟨0, by omega, rfl, rfl⟩
      case round =>
        obtain ⟨k, hk, rfl, rfl⟩ := hrel
        by_cases hlt : k + p.size ≤ s.size
        · have k0 : (0:Int) ≤ (k:Int) := by omega
          have k1 : (k:Int) + (p.size:Int) ≤ (s.size:Int) := by omega
          have hbd := cntP_bd s p k
          have hsu := cntP_succ s p k
          have hoc := occ_eq s p k hlt
          obtain ⟨x, hx⟩ : ∃ x, cntP s p k = x := ⟨_, rfl⟩
          rw [hx] at hbd hsu ⊢
          cases ho : occ s p k with
          | true =>
            have heq : s.extract k (k + p.size) = p := hoc.2 ho
            rw [ho] at hsu
            have HS := Lib.hid hsu
            clear hsu hoc hx ho
            go_wp2_with fail
            go_round
            case rel => exact ⟨k + 1, by omega, by go_num, by rw [HS.out]; rfl⟩
            case measure => simp [intOf]; omega
          | false =>
            have hne : ((s.extract k (k + p.size)).toList == p.toList) = false := by
              rw [beq_eq_false_iff_ne]
              intro h
              have h2 : s.extract k (k + p.size) = p := bytes_inj h
              rw [hoc.1 h2] at ho; cases ho
            rw [ho] at hsu
            have HS := Lib.hid hsu
            clear hsu hoc hx ho
            go_wp2_with fail
            go_round
            case rel => exact ⟨k + 1, by omega, by go_num, by rw [HS.out]; simp⟩
            case measure => simp [intOf]; omega
        · have k1 : ¬ (k:Int) + (p.size:Int) ≤ (s.size:Int) := by omega
          have hst := cntP_stop (s := s) hp1 k (by omega) (s.size - k)
          rw [show k + (s.size - k) = s.size from by omega] at hst
          have HS := Lib.hid hst
          clear hst
          go_wp2_with fail
          go_ret2
          exact retPn_yes H.out HS.out (Below.refl _ _)
end Go.Proofs.YtlckamnadddlmaaGreatDoor

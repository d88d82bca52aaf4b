import Derived.Test.YtlckamnadddlmaaDoorPmW
/- Rows of rows of numbers, told by a function of two places; the number of a text of bits. No condition. -/
namespace Go.Proofs.YtlckamnadddlmaaDoor
open Go.RowKit
set_option linter.unusedVariables false

theorem numL_take {l : List UInt8} {k : Nat} (hk : k < l.length) : numL (l.take (k + 1)) 0 = 2 * numL (l.take k) 0 + (if l[k] = 49 then 1 else 0) := by
  rw [List.take_succ_eq_append_getElem hk, numL_snoc]
set_option maxRecDepth 20000 in
theorem l01Number_any (P : ByteArray) (w : World) (hb : isB P = true) (h6 : P.size ≤ 6) : Calls Tryd.prog 11 #[.string P] w fun e w' => e = .returned (.int .i64 (numL P.data.toList 0 : Nat)) ∧ w' = w := by
  have HB := Lib.hid hb
  have hpl := size_list P
  have HLT := Lib.hid (show ∀ k, k ≤ 6 → numL (P.data.toList.take k) 0 < 2 ^ k from fun k hk => by
    have h1 := numL_lt (P.data.toList.take k)
    have h2 : 2 ^ (P.data.toList.take k).length ≤ 2 ^ k := Nat.pow_le_pow_right (by omega) (by simp; omega)
    omega)
  clear hb
  go_enter Tryd.func11, Tryd.ntmps11
  go_wp2_with fail
  go_loopw [4, 3] (fun i v wr => ∃ (k N : Nat), k ≤ P.size ∧ i = .int .i64 (k : Nat) ∧ v = .int .i64 (N : Nat) ∧ Hid (numL (P.data.toList.take k) 0 = N) ∧ wr = w) (fun i _ _ => P.size - (intOf i).toNat)
  case atStart => exact ⟨0, 0, Nat.zero_le _, rfl, rfl, Lib.hid rfl, rfl⟩
  case round =>
    obtain ⟨k, N, hk, rfl, rfl, HN, rfl⟩ := hrel
    by_cases hlt : k < P.size
    · have hki : (k : Int) < (P.size : Int) := by omega
      have hk0 : (0 : Int) ≤ (k : Int) := by omega
      have hat := isB_at HB.out hlt
      have hbt : bitOf P k = if P.data.toList[k]'(by omega) = 49 then 1 else 0 := by
        unfold bitOf by8
        rw [List.getD, List.getElem?_eq_getElem (by omega : k < P.data.toList.length)]
        rfl
      have hst := numL_take (l := P.data.toList) (k := k) (by omega)
      rw [HN.out] at hst
      have hN64 : N < 64 := by
        have h1 := HLT.out k (by omega)
        have h2 : (2 : Nat) ^ k ≤ 2 ^ 6 := Nat.pow_le_pow_right (by omega) (by omega)
        rw [HN.out] at h1
        omega
      have hgk := get_by8 P k hlt
      obtain ⟨bv, hbv⟩ : ∃ bv : Int, bitOf P k = bv := ⟨_, rfl⟩
      rw [hbv] at hat hbt
      have hg : ((P[k].toNat : Nat) : Int) = 48 + bv := by rw [hgk]; exact hat.1
      have hb01 := hat.2
      have HS := Lib.hid (show ((numL (P.data.toList.take (k + 1)) 0 : Nat) : Int) = 2 * (N : Int) + bv by
        rw [hst, hbt]
        split <;> simp)
      have hx1 : IntKind.u8.wrap (48 + bv - 48) = bv := by rw [show 48 + bv - 48 = bv by omega]; exact IntWalk.u8_in _ (by omega)
      have hx2 : IntKind.i64.wrap (2 * (N : Int)) = 2 * (N : Int) := IntWalk.i64_in _ (by omega)
      have hx3 : IntKind.i64.wrap bv = bv := IntWalk.i64_in _ (by omega)
      have hx4 : IntKind.i64.wrap (2 * (N : Int) + bv) = 2 * (N : Int) + bv := IntWalk.i64_in _ (by omega)
      clear hat hbt hst hgk hbv
      go_wp2_with fail
      go_roundw
      case rel => exact ⟨k + 1, numL (P.data.toList.take (k + 1)) 0, by omega, by go_num, by rw [HS.out], Lib.hid rfl, trivial⟩
      case measure => simp [intOf]; omega
    · obtain rfl : k = P.size := by omega
      have hki : ¬ (P.size : Int) < (P.size : Int) := by omega
      have HF := Lib.hid (show numL P.data.toList 0 = N by
        have := HN.out
        rw [List.take_of_length_le (by omega)] at this
        exact this)
      go_wp2_with fail
      go_ret
      exact ⟨by rw [HF.out]; rfl, rfl⟩
/-- A row told by a function. -/
def fnR (n1 : Nat) (f : Nat → Int) : List Int := (List.range n1).map f
theorem fnR_len (n1 : Nat) (f : Nat → Int) : (fnR n1 f).length = n1 := by simp [fnR]
theorem fnR_at {n1 v : Nat} {f : Nat → Int} (h : v < n1) : (fnR n1 f).getD v 0 = f v := by simp [fnR, List.getD, h]
theorem fnR_zero (n1 : Nat) : fnR n1 (fun _ => 0) = List.replicate n1 0 := by
  apply List.ext_getElem?
  intro v
  by_cases hv : v < n1
  · simp [fnR, hv]
  · rw [List.getElem?_eq_none (by rw [fnR_len]; omega), List.getElem?_eq_none (by simp; omega)]
theorem fnR_set {n1 v : Nat} (f : Nat → Int) (x : Int) : (fnR n1 f).set v x = fnR n1 (fun u => if u = v then x else f u) := by
  apply List.ext_getElem?
  intro u
  by_cases hu : u < n1
  · rw [List.getElem?_set, fnR_len]
    by_cases h : v = u
    · subst h
      simp [fnR, hu]
    · rw [if_neg h]
      simp [fnR, hu, Ne.symm h]
  · rw [List.getElem?_eq_none (by rw [List.length_set, fnR_len]; omega), List.getElem?_eq_none (by rw [fnR_len]; omega)]
/-- Rows of rows: the blocks of the rows gs, the block g of the rows' slices; rows from m on are not made yet. -/
def mtO (g sz n1 : Nat) (gs : List Nat) (M : Nat → Nat → Int) : List (Nat × (Obj → Prop)) :=
  (g, rowO 22 sz (gs.map (fun x => Value.slice (some ⟨x, 0, none⟩) n1 n1) ++ List.replicate (sz - gs.length) (.slice none 0 0))) :: (List.range gs.length).map fun k => (gs.getD k 0, rowO 2 n1 ((fnR n1 (M k)).map (Value.int .i64)))
theorem mtO_len (g sz n1 : Nat) (gs : List Nat) (M : Nat → Nat → Int) : (mtO g sz n1 gs M).length = gs.length + 1 := by simp [mtO]
theorem mtO_zero (g sz n1 : Nat) (gs : List Nat) (M : Nat → Nat → Int) : (mtO g sz n1 gs M)[0]? = some (g, rowO 22 sz (gs.map (fun x => Value.slice (some ⟨x, 0, none⟩) n1 n1) ++ List.replicate (sz - gs.length) (.slice none 0 0))) := rfl
theorem mtO_row {g sz n1 k : Nat} {gs : List Nat} {M : Nat → Nat → Int} (h : k < gs.length) : (mtO g sz n1 gs M)[k + 1]? = some (gs.getD k 0, rowO 2 n1 ((fnR n1 (M k)).map (Value.int .i64))) := by
  simp [mtO, h]
theorem mtO_set {g sz n1 k v : Nat} {gs : List Nat} {M : Nat → Nat → Int} (x : Int) (h : k < gs.length) :
    (mtO g sz n1 gs M).set (k + 1) (gs.getD k 0, rowO 2 n1 (((fnR n1 (M k)).set v x).map (Value.int .i64))) = mtO g sz n1 gs (fun k' v' => if k' = k ∧ v' = v then x else M k' v') := by
  unfold mtO
  rw [List.set_cons_succ]
  congr 1
  apply List.ext_getElem?
  intro i
  by_cases hi : i < gs.length
  · rw [List.getElem?_set]
    by_cases e : k = i
    · subst e
      rw [if_pos rfl, if_pos (by simpa using hi)]
      simp only [List.getElem?_map, List.getElem?_range hi, Option.map_some]
      rw [fnR_set]
      congr 6
      simp
    · rw [if_neg e]
      simp only [List.getElem?_map, List.getElem?_range hi, Option.map_some]
      congr 6
      funext u
      rw [if_neg (fun h => e h.1.symm)]
  · rw [List.getElem?_eq_none (by simp; omega), List.getElem?_eq_none (by simp; omega)]
end Go.Proofs.YtlckamnadddlmaaDoor

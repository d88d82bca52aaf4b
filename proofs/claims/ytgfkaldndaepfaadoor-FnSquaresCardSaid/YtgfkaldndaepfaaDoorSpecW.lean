import Derived.Test.YtgfkaldndaepfaaDoorShiftsS
import Derived.BigRegion
import Derived.Deep.LoopGhost
/- The spectrum of a table: the program's walk. Condition: the text is a table. -/
namespace Go.Proofs.YtgfkaldndaepfaaDoor
open Go.RowKit
set_option linter.unusedVariables false

/-- A place with its bit j struck. -/
def clr (j y : Nat) : Nat := if y.testBit j then y ^^^ 2 ^ j else y
/-- The numbers in the middle of stage j, the pairs below m done. -/
def spL (f : Nat → Int) (n j m : Nat) : List Int := (List.range n).map fun y => if clr j y < m then spF f n (j + 1) y else spF f n j y
theorem spL_len (f : Nat → Int) (n j m : Nat) : (spL f n j m).length = n := by simp [spL]
theorem spL_at {f : Nat → Int} {n j m y : Nat} (hy : y < n) : (spL f n j m).getD y 0 = if clr j y < m then spF f n (j + 1) y else spF f n j y := by
  rw [getD_eq _ _ (by rw [spL_len]; exact hy)]
  simp [spL]
theorem clr_le : ∀ j, j < 6 → ∀ y, y < 64 → clr j y ≤ y := by decide +kernel
theorem spL_next {f : Nat → Int} {n j : Nat} (hj : j < 6) (hn : n ≤ 64) : spL f n j n = spL f n (j + 1) 0 := by
  unfold spL
  apply List.map_congr_left
  intro y hy
  simp only [List.mem_range] at hy
  have := clr_le j hj y (by omega)
  rw [if_pos (by omega), if_neg (Nat.not_lt_zero _)]
theorem clr_f1 : ∀ j, j < 6 → ∀ m, m < 64 → m.testBit j = false → m ||| 2 ^ j = m ^^^ 2 ^ j := by decide +kernel
theorem clr_f2 : ∀ j, j < 6 → ∀ m, m < 64 → m.testBit j = false → (m ^^^ 2 ^ j).testBit j = true := by decide +kernel
theorem clr_f3 : ∀ j, j < 6 → ∀ m, m < 64 → (m ^^^ 2 ^ j) ^^^ 2 ^ j = m ∧ m ^^^ 2 ^ j ≠ m := by decide +kernel
theorem clr_f4 : ∀ j, j < 6 → ∀ m, m < 64 → m.testBit j = false → clr j m = m ∧ clr j (m ^^^ 2 ^ j) = m := by decide +kernel
theorem clr_f5 : ∀ j, j < 6 → ∀ m, m < 64 → m &&& 2 ^ j = if m.testBit j then 2 ^ j else 0 := by decide +kernel
theorem clr_facts (j : Nat) (hj : j < 6) (m : Nat) (hm : m < 64) : (m.testBit j = false → m ||| 2 ^ j = m ^^^ 2 ^ j ∧ (m ^^^ 2 ^ j).testBit j = true ∧ (m ^^^ 2 ^ j) ^^^ 2 ^ j = m ∧ clr j m = m ∧ clr j (m ^^^ 2 ^ j) = m ∧ m ^^^ 2 ^ j ≠ m) ∧ (m.testBit j = true → m &&& 2 ^ j = 2 ^ j) ∧ (m.testBit j = false → m &&& 2 ^ j = 0) :=
  ⟨fun h => ⟨clr_f1 j hj m hm h, clr_f2 j hj m hm h, (clr_f3 j hj m hm).1, (clr_f4 j hj m hm h).1, (clr_f4 j hj m hm h).2, (clr_f3 j hj m hm).2⟩, fun h => by rw [clr_f5 j hj m hm, h]; rfl, fun h => by rw [clr_f5 j hj m hm, h]; rfl⟩
theorem clr_eq : ∀ j, j < 6 → ∀ m, m < 64 → ∀ y, y < 64 → clr j y = m → m.testBit j = false ∧ (y = m ∨ y = m ^^^ 2 ^ j) := by
  intro j hj m hm y hy h
  have h1 : ∀ j, j < 6 → ∀ y, y < 64 → (clr j y).testBit j = false ∧ (y = clr j y ∨ y = clr j y ^^^ 2 ^ j) := by decide +kernel
  have := h1 j hj y hy
  rw [h] at this
  exact this
theorem spL_skip {f : Nat → Int} {n j m : Nat} (hj : j < 6) (hn : n ≤ 64) (hm : m < n) (h : m.testBit j = true) : spL f n j m = spL f n j (m + 1) := by
  refine ext_getD (by simp [spL_len]) fun y hy => ?_
  have hyn : y < n := by simpa [spL_len] using hy
  rw [spL_at hyn, spL_at hyn]
  have hne : clr j y ≠ m := fun e => by
    have := (clr_eq j hj m (by omega) y (by omega) e).1
    rw [h] at this
    cases this
  by_cases h1 : clr j y < m
  · rw [if_pos h1, if_pos (by omega)]
  · rw [if_neg h1, if_neg (by omega)]
theorem getD_set_at {xs : List Int} {j : Nat} {v : Int} (h : j < xs.length) : (xs.set j v).getD j 0 = v := by simp [List.getD, h]
theorem getD_set_ne {xs : List Int} {i j : Nat} {v : Int} (h : i ≠ j) : (xs.set i v).getD j 0 = xs.getD j 0 := by simp [List.getD, h]
theorem spL_step {f : Nat → Int} {n j m : Nat} (hj : j < 6) (hn : n ≤ 64) (hm : m < n) (hq : m ^^^ 2 ^ j < n) (h : m.testBit j = false) :
    ((spL f n j m).set m (spF f n j m + spF f n j (m ^^^ 2 ^ j))).set (m ^^^ 2 ^ j) (spF f n j m - spF f n j (m ^^^ 2 ^ j)) = spL f n j (m + 1) := by
  obtain ⟨f1, f2, f3, f4, f5, f6⟩ := (clr_facts j hj m (by omega)).1 h
  refine ext_getD (by simp [spL_len]) fun y hy => ?_
  have hyn : y < n := by simpa [spL_len] using hy
  rw [spL_at hyn]
  by_cases hyq : m ^^^ 2 ^ j = y
  · subst hyq
    rw [getD_set_at (by simp [spL_len]; exact hq), f5, if_pos (by omega), sp_step f n j _ hj (by omega) hn, f2, if_pos rfl, f3]
  · rw [getD_set_ne hyq]
    by_cases hym : m = y
    · subst hym
      rw [getD_set_at (by rw [spL_len]; exact hm), f4, if_pos (by omega), sp_step f n j m hj (by omega) hn, h, if_neg (by simp)]
    · rw [getD_set_ne hym, spL_at hyn]
      have hne : clr j y ≠ m := fun e => by
        rcases (clr_eq j hj m (by omega) y (by omega) e).2 with e' | e'
        · exact hym e'.symm
        · exact hyq e'.symm
      by_cases h1 : clr j y < m
      · rw [if_pos h1, if_pos (by omega)]
      · rw [if_neg h1, if_neg (by omega)]
theorem spF_bound {f : Nat → Int} (hf : ∀ x, f x = 1 ∨ f x = -1) {n : Nat} (hn : n ≤ 64) (j y : Nat) : -64 ≤ spF f n j y ∧ spF f n j y ≤ 64 := by
  have := csum_le (c := spC j y) (f := f) (fun x => spC_le j y x) hf n
  unfold spF
  omega
/-- The spectrum. -/
def spS' (s : ByteArray) : List Int := (List.range s.size).map fun a => csum (spS a) (sgF s) s.size
theorem spS'_len (s : ByteArray) : (spS' s).length = s.size := by simp [spS']
theorem spL_end {s : ByteArray} {k : Nat} (hk : k < 7) (hs : s.size = 2 ^ k) : spL (sgF s) s.size k 0 = spS' s := by
  unfold spL spS'
  apply List.map_congr_left
  intro a ha
  simp only [List.mem_range] at ha
  rw [if_neg (Nat.not_lt_zero _), hs, sp_end _ hk (by rw [← hs]; exact ha)]
theorem spL_zero (f : Nat → Int) (n : Nat) : spL f n 0 0 = (List.range n).map f := by
  unfold spL
  apply List.map_congr_left
  intro a ha
  simp only [List.mem_range] at ha
  rw [if_neg (Nat.not_lt_zero _), spF_zero f n a ha]
theorem own_some {w : World} {B E : Nat} {v : Value} {n : Nat} {xs : List Value} (h : w.ownsRow B E 1 v n xs) (hn : 0 < n) : ∃ g c, v = .slice (some ⟨g, 0, none⟩) n c := by
  rcases h.2 with ⟨e, h0⟩ | ⟨g, c, cur, e, _⟩
  · omega
  · exact ⟨g, c, e⟩
set_option maxRecDepth 20000 in
set_option maxHeartbeats 3200000 in
theorem spectrum_any (s : ByteArray) (k : Nat) (w : World) (hk : k < 7) (hs : s.size = 2 ^ k) (hb : isB s = true) :
    Calls Tryd.prog 21 #[.string s] w (RetInts w (spS' s)) := by
  have hsz : s.size ≤ 64 := by have := pow_le_64 k hk; omega
  have hs1 : 1 ≤ s.size := by rw [hs]; exact Nat.one_le_two_pow
  have hbit : ∀ x, x < s.size → ((by8 s x).toNat : Int) = 48 + (if bitF s x then 1 else 0) := fun x hx => isB_byte hb hx
  have hend := spL_end hk hs
  have hf1 := fun x => sgF_or s x
  have hfe : ∀ x, sgF s x = sgV (bitF s x) := fun x => rfl
  obtain ⟨fb, hfb⟩ : ∃ fb, bitF s = fb := ⟨_, rfl⟩
  obtain ⟨f, hf⟩ : ∃ f, sgF s = f := ⟨_, rfl⟩
  rw [hfb] at hbit hfe
  rw [hf] at hend hf1 hfe
  have HAT := Lib.hid (And.intro hend (And.intro hf1 (And.intro hfe (And.intro hbit hs))))
  clear hend hf1 hfe hbit hs hb hfb hf
  go_enter Tryd.func21, Tryd.ntmps21
  go_wp2
  go_loopw [10, 3] (fun i v wr => ∃ (m : Nat) (xs : List Int), m ≤ s.size ∧ i = .int .i64 (m : Nat) ∧ Hid (xs = (List.range m).map f) ∧ GrowAt w wr 2 v m (xs.map (Value.int .i64))) (fun i _ _ => s.size - (intOf i).toNat)
  case atStart => exact ⟨0, [], Nat.zero_le _, rfl, Lib.hid rfl, GrowAt.start w 2⟩
  case round =>
    obtain ⟨m, xs, hm, rfl, HXS, hG⟩ := hrel
    by_cases hlt : m < s.size
    · have hm0 : (0:Int) ≤ (m:Int) := by omega
      have hmi : (m:Int) < (s.size:Int) := by omega
      have hgx := get_by8 s m hlt
      have hb1 := HAT.out.2.2.2.1 m hlt
      have hrfl : ∀ b : Bool, (48 + (if b then 1 else 0) : Int) = if b then 49 else 48 := by decide
      rw [hrfl, ← hgx] at hb1
      have hfm := HAT.out.2.2.1 m
      have HG := Lib.hid hG
      obtain ⟨z, c, hbc, hcall, hz⟩ : ∃ z c : Int, ((s[m]).toNat : Int) = c ∧ (∀ w, Calls Tryd.prog 35 #[.int .u8 c] w fun e w' => e = .returned (.int .i64 z) ∧ w' = w) ∧ f m = z := by
        cases hfb : fb m with
        | false => exact ⟨1, 48, by rw [hb1, hfb]; rfl, sign_one, by rw [hfm, hfb]; rfl⟩
        | true => exact ⟨-1, 49, by rw [hb1, hfb]; rfl, sign_neg, by rw [hfm, hfb]; rfl⟩
      have HC := Lib.hid hcall
      have HF := Lib.hid hz
      have HG2 := Lib.hid (hG.alloc (.cells #[.int .i64 z] 2))
      clear hG hgx hrfl hb1 hfm hcall hz
      go_wp2_with fail
      refine (HC.out _).mono ?_
      rintro e w' ⟨rfl, rfl⟩
      go_wp2_with (at_builtin; refine wpList_ap1 rfl (.tmp 13) (.tmp 18) 25 rfl w.heap.size 2 (.int .i64 0) 8 Tryd.underlying25 Tryd.infoI rfl _ m _ rfl HG2.out.1 w'.heap.size (.int .i64 z) rfl (by go_simp) rfl (by omega) (by omega) HG2.out.2.size ?_)
      intro v' w6 hown hgrow _
      have HG3 := Lib.hid (own_i64 HG2.out hown hgrow)
      clear hown hgrow
      go_wp2
      go_roundw
      case rel => exact ⟨m + 1, xs ++ [z], by omega, by go_num, Lib.hid (by rw [List.range_succ, List.map_append, HXS.out, ← HF.out]; rfl), HG3.out⟩
      case measure => simp [intOf]; omega
    · obtain rfl : m = s.size := by omega
      obtain ⟨g, c, rfl⟩ := own_some hG.1 hs1
      have hA : At w wr [⟨some ⟨g, 0, none⟩, s.size, c, spL f s.size 0 0⟩] := ⟨Lists.one (by rw [spL_zero, ← HXS.out]; exact hG.1), hG.2⟩
      have HA := Lib.hid hA
      clear hG hA HXS
      go_wp2
      go_loopw [5] (fun i wr => ∃ j p : Nat, j ≤ k ∧ Hid (p = 2 ^ j) ∧ i = .int .i64 (p : Nat) ∧ Hid (At w wr [⟨some ⟨g, 0, none⟩, s.size, c, spL f s.size j 0⟩])) (fun i _ => 128 - (intOf i).toNat)
      case atStart => exact ⟨0, 1, Nat.zero_le _, Lib.hid rfl, rfl, HA⟩
      case round =>
        clear HA
        obtain ⟨j, p, hj, HP, rfl, HA⟩ := hrel
        obtain ⟨wo, rfl⟩ : ∃ wo : World, wo = wr := ⟨_, rfl⟩
        have hp1 : 1 ≤ p := by rw [HP.out]; exact Nat.one_le_two_pow
        by_cases hjk : j < k
        · have hpn : p < s.size := by rw [HP.out, HAT.out.2.2.2.2]; exact Nat.pow_lt_pow_right (by omega) hjk
          have hpi : (p : Int) < (s.size : Int) := by omega
          go_wp2
          go_loopw [29] (fun x wr => ∃ m : Nat, m ≤ s.size ∧ x = .int .i64 (m : Nat) ∧ Hid (At w wr [⟨some ⟨g, 0, none⟩, s.size, c, spL f s.size j m⟩])) (fun x _ => s.size - (intOf x).toNat)
          case atStart => exact ⟨0, Nat.zero_le _, rfl, HA⟩
          case round =>
            obtain ⟨m, hm, rfl, HM⟩ := hrel
            by_cases hlt : m < s.size
            · have hm0 : (0:Int) ≤ (m:Int) := by omega
              have hmi : (m:Int) < (s.size:Int) := by omega
              obtain ⟨b1, b2, b3⟩ := clr_facts j (by omega) m (by omega)
              have hand := and_i64 m p (by omega) (by omega)
              cases hbit : m.testBit j with
              | true =>
                rw [HP.out, b2 hbit, ← HP.out] at hand
                have hpne : ((p:Int) == 0) = false := by rw [beq_eq_false_iff_ne]; omega
                have HN := Lib.hid (show At w wr [⟨some ⟨g, 0, none⟩, s.size, c, spL f s.size j (m + 1)⟩] by rw [← spL_skip (by omega) hsz hlt hbit]; exact HM.out)
                clear b1 b2 b3 hbit
                go_wp2
                go_roundw
                case rel => exact ⟨m + 1, by omega, by go_num, HN⟩
                case measure => simp [intOf]; omega
              | false =>
                rw [HP.out, b3 hbit] at hand
                rw [← HP.out] at hand
                simp only [Int.natCast_zero] at hand
                obtain ⟨f1, f2, f3, f4, f5, f6⟩ := b1 hbit
                have hor : bits .or .i64 (m : Int) (p : Int) = ((m ^^^ 2 ^ j : Nat) : Int) := by rw [or_i64 m p (by omega) (by omega), HP.out, f1]
                have hqn : m ^^^ 2 ^ j < s.size := by rw [HAT.out.2.2.2.2]; exact Nat.xor_lt_two_pow (by rw [← HAT.out.2.2.2.2]; exact hlt) (pow_lt_pow' hjk)
                have hstep := spL_step (f := f) (by omega) hsz hlt hqn hbit
                have hcm := HM.out.1.intAt 0 rfl m hlt
                have hcq := HM.out.1.intAt 0 rfl (m ^^^ 2 ^ j) hqn
                have hfm := HM.out.1.frozenAt 0 rfl m
                have hfq := HM.out.1.frozenAt 0 rfl (m ^^^ 2 ^ j)
                rw [spL_at hlt, f4, if_neg (Nat.lt_irrefl m)] at hcm
                rw [spL_at hqn, f5, if_neg (Nat.lt_irrefl m)] at hcq
                obtain ⟨x1, x2⟩ := spF_bound HAT.out.2.1 hsz j m
                obtain ⟨y1, y2⟩ := spF_bound HAT.out.2.1 hsz j (m ^^^ 2 ^ j)
                obtain ⟨q, hq⟩ : ∃ q, m ^^^ 2 ^ j = q := ⟨_, rfl⟩
                rw [hq] at hor hqn hstep hcq hfq y1 y2 f6
                obtain ⟨x, hx⟩ : ∃ x, spF f s.size j m = x := ⟨_, rfl⟩
                obtain ⟨y, hy⟩ : ∃ y, spF f s.size j q = y := ⟨_, rfl⟩
                rw [hx] at hstep hcm x1 x2
                rw [hy] at hstep hcq y1 y2
                have hO := (HM.out.set 0 rfl m (x + y)).set 0 rfl q (x - y)
                simp only [List.set_cons_zero, hstep] at hO
                have hqi : (q:Int) < (s.size:Int) := by omega
                have hq0 : (0:Int) ≤ (q:Int) := by omega
                have hw1 : IntKind.i64.wrap (x + y) = x + y := IntWalk.i64_in _ (by omega)
                have hw2 : IntKind.i64.wrap (x - y) = x - y := IntWalk.i64_in _ (by omega)
                have HN := Lib.hid hO
                have hmq : ¬ q = m := f6
                have hqm : ¬ m = q := fun e => f6 e.symm
                clear b1 b2 b3 hbit f1 f2 f3 f4 f5 f6 hstep hq hx hy hO
                go_wp2_with fail
                go_region
                all_goals (try go_wp2_with fail)
                all_goals
                  go_roundw
                  case rel => exact ⟨m + 1, by omega, by go_num, Lib.hid (HN.out.drew)⟩
                  case measure => simp [intOf]; omega
            · obtain rfl : m = s.size := by omega
              have HN := Lib.hid (show At w wr [⟨some ⟨g, 0, none⟩, s.size, c, spL f s.size (j + 1) 0⟩] by rw [← spL_next (by omega) hsz]; exact HM.out)
              go_wp2
              go_roundw
              case rel => exact ⟨j + 1, 2 * p, by omega, Lib.hid (by rw [HP.out, Nat.pow_succ]; omega), by go_num, HN⟩
              case measure => simp [intOf]; omega
        · obtain rfl : j = k := by omega
          obtain rfl : p = s.size := by rw [HP.out, HAT.out.2.2.2.2]
          have hA := HA.out
          rw [HAT.out.1] at hA
          have hR : RetInts w (spS' s) (.returned (.slice (some ⟨g, 0, none⟩) s.size c)) wo := ⟨some ⟨g, 0, none⟩, c, by rw [spS'_len], by rw [spS'_len]; exact hA.1.ownAt 0 rfl, hA.2⟩
          have HR := Lib.hid hR
          clear hA hR
          go_wp2
          go_ret
          exact HR.out
end Go.Proofs.YtgfkaldndaepfaaDoor

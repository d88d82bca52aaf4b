import Derived.Test.YtpineiocjaajnaaWvF
/- The reference's shortest wave, from the first wave on. Condition: the congruence is valid and the dimension is from 2 to 4. -/
namespace Go.Proofs.Ytpineiocjaajnaa
open Go.RowKit
set_option linter.unusedVariables false

theorem zeroCells_list (n : Nat) : (Builtin.zeroCells (Value.int .i64 0).cells n).toList = (List.replicate n (0 : Int)).map (Value.int .i64) := by
  have h : ∀ c : Array Value, c.size = n → (∀ i, i < n → c[i]? = some (Value.int .i64 0)) → c.toList = (List.replicate n (0 : Int)).map (Value.int .i64) := by
    intro c hc hi
    apply List.ext_getElem?
    intro i
    rw [Array.getElem?_toList, List.getElem?_map, List.getElem?_replicate]
    by_cases h : i < n
    · rw [hi i h, if_pos h]; rfl
    · rw [if_neg h, Array.getElem?_eq_none (by omega)]; rfl
  refine h _ ?_ ?_
  · unfold Builtin.zeroCells; simp [Value.cells]
  · intro i hi; unfold Builtin.zeroCells; simp [Value.cells, hi, Nat.mod_one]
set_option maxRecDepth 100000 in
set_option maxHeartbeats 1600000 in
theorem l03Wave_any (b3 : Nat) (m a ad : Int) (D : Nat) (w : World) (hm : 2 ≤ m ∧ m ≤ 100000) (ha : 0 ≤ a ∧ a < m) (hD : D = 2 ∨ D = 3 ∨ D = 4) (hg : G3 w b3 m a ad) :
    Calls Try.prog 33 #[.pointer (some ⟨b3, 0, none⟩), .int .i64 (D : Nat)] w fun e w' => ∃ c aa cc, e = .returned (.slice aa D cc) ∧ IsInts w' aa D c ∧ Below w.heap.size w w' ∧ BestOf (IsWv a m D) c := by
  obtain ⟨n, hnD⟩ : ∃ n, n + 1 = D := ⟨D - 1, by omega⟩
  have hn : 1 ≤ n ∧ n ≤ 3 := by omega
  have HD := Lib.hid hnD
  have hD0 : 0 < D ∧ D ≤ 4 := by omega
  have HG := Lib.hid hg
  have hm0 : 0 < m := by omega
  have hmm : m * m ≤ 10000000000 := Int.mul_le_mul (b := m) (d := 100000) (a := m) (c := 100000) (by omega) (by omega) (by omega) (by omega)
  have HMM := Lib.hid hmm
  have hDn : IntKind.i64.wrap ((D : Int) - 1) = (n : Int) := by rw [IntWalk.i64_in _ (by omega)]; omega
  obtain ⟨i0, hi, hz0, hz1, hz2⟩ := info_parts Try.infoI
  have HR0 := Lib.hid (WvR.start (a := a) (n := n) hm0)
  have HSH := Lib.hid (fun x ac cc c w (hx : 1 ≤ x ∧ x ≤ 100000) => l03Shell_any b3 m a ad n x ac cc c w hm ha hn hx)
  rw [hnD] at HR0 HSH
  obtain ⟨y0, y1, y2, y3⟩ := hg
  -- the first wave
  have hA := (Below.refl _ w).alloc (Nat.le_refl _) (.cells #[.int .i64 m] 2)
  have HA := Lib.hid hA
  have hcs : ∀ j v, ([m].map (Value.int .i64))[j]? = some v → (w.alloc (.cells #[.int .i64 m] 2)).cell? ((⟨w.heap.size, 0, none⟩ : Addr).add j) = some v := by
    intro j v hj
    have h := heap_at_new w (.cells #[.int .i64 m] 2)
    cases j with
    | zero =>
      have e : (⟨w.heap.size, 0, none⟩ : Addr).add 0 = ⟨w.heap.size, 0, none⟩ := by unfold Addr.add; split <;> simp_all
      rw [e]
      simp only [World.cell?, h]
      exact hj
    | succ j => simp at hj
  obtain ⟨wA, hwA⟩ : ∃ z, w.alloc (.cells #[.int .i64 m] 2) = z := ⟨_, rfl⟩
  rw [hwA] at hcs HA
  have hold : (Builtin.firstCells i0.size 1 (.slice (some ⟨w.heap.size, 0, none⟩) 1 1)).run Try.prog wA.drew = .ok ([m].map (Value.int .i64)).toArray wA.drew := by
    rw [hz1]
    exact run_firstCells_some (w := wA.drew) 1 1 ⟨w.heap.size, 0, none⟩ 1 1 ([m].map (Value.int .i64)) rfl hcs
  have hr := fun ty => Lib.run_append_grow_zeros (P := Try.prog) wA 24 2 ty 2 i0 (.int .i64 0) .i64 .i64 Try.underlying24 (by kernel_rfl) hi hz0 (some ⟨w.heap.size, 0, none⟩) 1 1 _ hold n (by omega) (by omega) (by omega) (by omega) (by rw [hz2]; omega) (by rw [hz2]; exact growslice_fits (by omega) (by omega))
  have hG := grownCap_ge wA (1 + n) 1 2
  have hG2 := grownCap_le_maxLen wA (1 + n) 1 2 (by unfold maxLen; omega)
  obtain ⟨G, hGe⟩ : ∃ G, grownCap wA (1 + n) 1 2 = G := ⟨_, rfl⟩
  rw [hGe] at hr hG hG2
  have hmade : ∀ cs : Array Value, cs = ([m].map (Value.int .i64)).toArray ++ Builtin.zeroCells (Value.int .i64 0).cells n ++ Builtin.zeroCells (Value.int .i64 0).cells (G - (1 + n)) → IsInts (wA.drew.alloc (.cells cs 2)) (some ⟨wA.heap.size, 0, none⟩) (1 + n) (m :: List.replicate n 0) := by
    intro cs hcs
    refine ⟨by simp; omega, fun j hj => ⟨wA.heap.size, 0, rfl, ?_⟩⟩
    have h : (wA.drew.alloc (.cells cs 2)).heap[wA.heap.size]? = some (.cells cs 2 (0, 0)) := heap_at_new wA.drew (.cells cs 2)
    have hl : cs.toList = (m :: List.replicate n 0).map (Value.int .i64) ++ (Builtin.zeroCells (Value.int .i64 0).cells (G - (1 + n))).toList := by
      rw [hcs, Array.toList_append, Array.toList_append, zeroCells_list]; simp
    simp only [World.cell?, h]
    show cs[0 + j]? = _
    rw [Nat.zero_add, ← Array.getElem?_toList, hl, List.getElem?_append_left (by simp; omega), List.getElem?_map, List.getD]
    rw [List.getElem?_eq_getElem (by simp; omega)]; rfl
  obtain ⟨cs, hcse⟩ : ∃ cs, ([m].map (Value.int .i64)).toArray ++ Builtin.zeroCells (Value.int .i64 0).cells n ++ Builtin.zeroCells (Value.int .i64 0).cells (G - (1 + n)) = cs := ⟨_, rfl⟩
  have HI := Lib.hid (hmade cs hcse.symm)
  have HB := Lib.hid (show Below w.heap.size w (wA.drew.alloc (.cells cs 2)) from bthen HA.out ((Below.refl _ wA).drew.alloc (Nat.le_refl _) _))
  rw [hcse] at hr
  rw [show 1 + n = D by omega] at HI hr
  have hG63 : G ≤ 9223372036854775807 := by unfold maxLen at hG2; omega
  clear hnD hD hcse hmade hcs hold hGe hG hG2 hmm hA hi hz0 hz1 hz2
  go_enter Try.func33, Try.ntmps33
  go_wp2_with (at_builtin; (try rw [hwA]); refine Lib.wpList_append_run _ rfl _ _ _ _ rfl _ _ rfl rfl _ _ (hr _) ?_)
  obtain ⟨bA, hbA⟩ : ∃ b, wA.heap.size = b := ⟨_, rfl⟩
  rw [show wA.drew.alloc (.cells cs 2) = (wA.alloc (.cells cs 2)).drew from rfl] at HI HB
  obtain ⟨w1, hw1⟩ : ∃ z, (wA.alloc (.cells cs 2)).drew = z := ⟨_, rfl⟩
  rw [hw1, hbA] at HI
  rw [hw1] at HB
  try rw [hbA]
  try rw [hw1]
  clear hr hwA y0 y1 y2 y3
  have h00 : IntKind.i64.wrap 1 = 1 := rfl
  go_loopw [6, 5] (fun v6 v5 wr => ∃ (x : Nat) (c : List Int) (ac : Option Addr) (cc : Nat), v6 = .int .i64 (x : Nat) ∧ v5 = .slice ac D cc ∧ 1 ≤ x ∧ x ≤ 100001 ∧ Hid (IsInts wr ac D c) ∧ Hid (Below w.heap.size w wr) ∧ Hid (WvR a m D c (x : Int))) (fun v6 _ _ => 100010 - (intOf v6).toNat)
  case atStart => exact ⟨1, _, _, _, rfl, rfl, by omega, by omega, HI, HB, HR0⟩
  case round =>
    clear HI HB HR0
    obtain ⟨x, c, ac, cc, rfl, rfl, hx1, hx2, HI, HB, HR⟩ := hrel
    have hx0 : (0 : Int) ≤ (x : Int) := by omega
    have HQ := Lib.hid (fun w a n cap h => squares_any a n cap c w h (sm_of_sq (HR.out.2.1) (by omega) (by rw [HR.out.1.wa.len]; omega)))
    have hqb : (x : Int) * (x : Int) ≤ 40000000000 := Int.mul_le_mul (b := (x : Int)) (d := 200000) (a := (x : Int)) (c := 200000) (by omega) (by omega) hx0 (by omega)
    have hqb0 := sq_nn (x : Int)
    have hxm : (x : Int) * (x : Int) ≤ 10000000000 → x ≤ 100000 := fun h => by
      by_cases h1 : 100000 < x
      · have := @sq_lt 100000 (x : Int) (by omega)
        omega
      · omega
    obtain ⟨q, hq⟩ : ∃ q, (x : Int) * (x : Int) = q := ⟨_, rfl⟩
    obtain ⟨sc, hsc⟩ : ∃ s, sqL c = s := ⟨_, rfl⟩
    rw [hq] at hqb hqb0 hxm
    rw [hsc] at HQ
    have HE := Lib.hid (And.intro hq hsc)
    have HSCM := Lib.hid (show sc ≤ 10000000000 by rw [← hsc]; exact Int.le_trans HR.out.2.1 HMM.out)
    have hqw : IntKind.i64.wrap q = q := IntWalk.i64_in _ (by omega)
    clear hsc
    go_upto_region 3 with fail
    go_wp2_with (go_at_call 28; refine (HQ.out _ _ _ _ HI.out).mono ?_)
    rintro e w2 ⟨rfl, hb⟩
    have HI2 := Lib.hid (HI.out.below hb)
    have HB2 := Lib.hid (bthen HB.out hb)
    clear hb
    by_cases hle : q ≤ sc
    · have hx3 := hxm (by have := HSCM.out; omega)
      have hx1w : IntKind.i64.wrap ((x : Int) + 1) = (x : Int) + 1 := IntWalk.i64_in _ (by omega)
      have HG2 := Lib.hid (HG.out.all HB2.out)
      clear hxm
      go_wp2_with fail
      refine (HSH.out (x : Int) ac cc c w2 (by omega) HG2.out HI2.out HR.out.1 HR.out.2.1).mono ?_
      rintro e w3 ⟨c3, a3, k3, rfl, hi3, hb3, hk3, hg3, hs3⟩
      have HI3 := Lib.hid hi3
      have HB3 := Lib.hid (bthen HB2.out hb3)
      have HR3 := Lib.hid (show WvR a m D c3 ((x + 1 : Nat) : Int) by rw [Int.natCast_add]; exact HR.out.next hk3 hg3 hs3)
      clear hi3 hb3 hk3 hg3 hs3
      go_wp2_with fail
      go_roundw
      case rel => exact ⟨x + 1, c3, a3, k3, by go_num, rfl, by omega, by omega, HI3, HB3, HR3⟩
      case measure => simp [intOf] <;> omega
    · have HBEST := Lib.hid (HR.out.best hD0.1 hx0 (by rw [HE.out.1, HE.out.2]; omega))
      go_wp2_with fail
      go_ret
      exact ⟨c, ac, cc, rfl, HI2.out, HB2.out, HBEST.out⟩
end Go.Proofs.Ytpineiocjaajnaa

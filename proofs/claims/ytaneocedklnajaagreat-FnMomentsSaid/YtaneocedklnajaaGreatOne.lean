import Derived.Test.YtaneocedklnajaaGreatBase
/- The small helpers: ranges, lengths, copies and comparisons of slices of int64. -/
namespace Go.Proofs.YtaneocedklnajaaGreat
open Go.RowKit
set_option linter.unusedVariables false

def inR (n lo hi : Int) : Bool := decide (lo ≤ n) && decide (n ≤ hi)

theorem inRange_any (n lo hi : Int) (w : World) :
    Calls Tryz.prog 54 #[.int .i64 n, .int .i64 lo, .int .i64 hi] w fun e w' => e = .returned (.bool (inR n lo hi)) ∧ w = w' := by
  by_cases h : lo ≤ n <;> by_cases h2 : n ≤ hi
  all_goals
    go_enter Tryz.func54, Tryz.ntmps54
    go_wp2
    go_ret
    exact ⟨by simp [inR, h, h2], rfl⟩
theorem l00In_any (n lo hi : Int) (w : World) :
    Calls Tryz.prog 64 #[.int .i64 n, .int .i64 lo, .int .i64 hi] w fun e w' => e = .returned (.bool (inR n lo hi)) ∧ w = w' := by
  by_cases h : lo ≤ n <;> by_cases h2 : n ≤ hi
  all_goals
    go_enter Tryz.func64, Tryz.ntmps64
    go_wp2
    go_ret
    exact ⟨by simp [inR, h, h2], rfl⟩
theorem length_any (a : Option Addr) (len cap : Nat) (w : World) :
    Calls Tryz.prog 55 #[.slice a len cap] w fun e w' => e = .returned (.int .i64 len) ∧ w = w' := by
  go_enter Tryz.func55, Tryz.ntmps55
  go_wp2
  go_ret
  exact ⟨rfl, rfl⟩

set_option maxHeartbeats 400000 in
theorem eqInt64S_any (a a' : Option Addr) (len len' cap cap' : Nat) (xs ys : List Int) (w : World) (hb : len < 4611686018427387904) (hx : IsInts w a len xs) (hy : IsInts w a' len' ys) :
    Calls Tryz.prog 38 #[.slice a len cap, .slice a' len' cap'] w (Ret w (.bool (decide (xs = ys)))) := by
  by_cases hll : len = len'
  · subst hll
    go_enter Tryz.func38, Tryz.ntmps38
    go_wp2
    go_loopw [5] (fun i wr => ∃ k : Nat, k ≤ len ∧ i = .int .i64 k ∧ (∀ j, j < k → xs.getD j 0 = ys.getD j 0) ∧ ∃ n, wr = w.drewN n) (fun i _ => len - (intOf i).toNat)
    case atStart => exact ⟨0, Nat.zero_le _, rfl, by omega, 0, rfl⟩
    case round =>
      obtain ⟨k, hk, rfl, heq, n, rfl⟩ := hrel
      have Heq := Lib.hid heq
      clear heq
      by_cases hlt : k < len
      · obtain ⟨b, off, ha, h1⟩ := hx.at hlt
        obtain ⟨b', off', ha', h2⟩ := hy.at hlt
        subst ha ha'
        have hk0 : (0:Int) ≤ (k:Int) := by omega
        have hkl : (k:Int) < (len:Int) := by omega
        go_wp2
        go_quiet (fail)
        go_wp2
        · have hne : (xs[k]?.getD 0 != ys[k]?.getD 0) = true := by assumption
          go_ret
          refine ⟨?_, bthen (drewN_below w n) (drewN_below _ _)⟩
          have : xs ≠ ys := by rintro rfl; simp at hne
          simp [this]
        · have he : (xs[k]?.getD 0 != ys[k]?.getD 0) = false := by assumption
          go_roundw
          case rel =>
            refine ⟨k + 1, by omega, by go_num, fun j hj => ?_, _, rfl⟩
            by_cases h : j = k
            · subst h; simpa using he
            · exact Heq.out j (by omega)
          case measure => simp [intOf]; omega
      · go_wp2
        go_ret
        refine ⟨?_, drewN_below w _⟩
        have : xs = ys := ext_getD (hx.1.trans hy.1.symm) (fun j hj => Heq.out j (by have := hx.1; omega))
        simp [this]
  · have hne : xs ≠ ys := by rintro rfl; exact hll (hx.1.symm.trans hy.1)
    have hd : decide (xs = ys) = false := by simp [hne]
    rw [hd]
    have hl1 : ((len : Int) != (len' : Int)) = true := by simp; omega
    go_enter Tryz.func38, Tryz.ntmps38
    go_wp2
    go_ret
    exact ⟨rfl, Below.refl _ _⟩

theorem zeros_toList (n : Nat) : (madeCells #[Value.int .i64 0] n).toList = (List.replicate n (0 : Int)).map (Value.int .i64) := by
  rw [toList_madeCells_one]; simp

/-- The round of a loop that fills a slice: the first k numbers are laid. -/
def part (zs : List Int) (k n : Nat) : List Int := zs.take k ++ List.replicate (n - k) 0

theorem part_set (zs : List Int) (k : Nat) (h : k < zs.length) : ((part zs k zs.length).map (Value.int .i64)).set k (.int .i64 (zs.getD k 0)) = (part zs (k + 1) zs.length).map (Value.int .i64) := by
  have hl : (zs.take k).length = k := by simp; omega
  rw [← List.map_set]
  congr 1
  unfold part
  rw [take_snoc zs k h, List.set_append]
  simp only [hl, Nat.lt_irrefl, if_false, Nat.sub_self, List.append_assoc]
  congr 1
  rw [show zs.length - k = (zs.length - (k + 1)) + 1 from by omega, List.replicate_succ]
  simp

theorem part_len (zs : List Int) (k : Nat) (h : k ≤ zs.length) : (part zs k zs.length).length = zs.length := by
  simp [part]; omega

set_option maxHeartbeats 400000 in
theorem toInt64S_own (a : Option Addr) (len cap : Nat) (zs : List Int) (w : World) (hb : len ≤ 1048576) (hx : IsInts w a len zs) :
    Calls Tryz.prog 30 #[.slice a len cap] w fun e w' => ∃ g c, e = .returned (.slice (some ⟨g, 0, none⟩) zs.length c) ∧ w'.ownsRow w.heap.size 2 1 (.slice (some ⟨g, 0, none⟩) zs.length c) zs.length (zs.map (Value.int .i64)) ∧ Below w.heap.size w w' := by
  obtain ⟨i0, hi, hz0, hz1, hz2⟩ := info_parts Tryz.infoI
  obtain rfl := hx.1
  have hm := zeros_toList zs.length
  have Hm := Lib.hid hm
  clear hm
  go_enter Tryz.func30, Tryz.ntmps30
  go_wp2_with (at_make; refine wpList_make_full _ rfl _ _ 22 rfl w.heap.size 2 i0 (.int .i64 0) 1 Tryz.underlying22 hi hz0 hz1 _ _ _ _ zs.length rfl rfl rfl rfl ?c1 ?c2 ?c3 ?_)
  case c1 => rw [hz2]; omega
  case c2 => unfold maxLen; omega
  case c3 => exact Nat.le_refl _
  intro w1 hown hgrow
  have hbw : Below w.heap.size w w1 := (Below.refl _ _).grown hgrow (Nat.le_refl _) (by simp)
  rw [Hm.out] at hown
  have hown0 : w1.ownsRow w.heap.size 2 1 (.slice (some ⟨w.heap.size, 0, none⟩) zs.length zs.length) zs.length ((part zs 0 zs.length).map (Value.int .i64)) := by simpa [part] using hown
  clear hgrow hown
  have Hb := Lib.hid hbw
  clear hbw
  go_wp2
  go_loopw [4] (fun i wr => ∃ k : Nat, k ≤ zs.length ∧ i = .int .i64 k ∧ wr.ownsRow w.heap.size 2 1 (.slice (some ⟨w.heap.size, 0, none⟩) zs.length zs.length) zs.length ((part zs k zs.length).map (Value.int .i64)) ∧ Below w.heap.size w wr) (fun i _ => zs.length - (intOf i).toNat)
  case atStart => exact ⟨0, Nat.zero_le _, rfl, hown0, Hb.out⟩
  case round =>
    obtain ⟨k, hk, rfl, hown, hbr⟩ := hrel
    have hxr := hx.below hbr
    by_cases hlt : k < zs.length
    · obtain ⟨b, off, ha, h1⟩ := hxr.at hlt
      subst ha
      have hk0 : (0:Int) ≤ (k:Int) := by omega
      have hkl : (k:Int) < (zs.length:Int) := by omega
      have hcell := hown.cellAt k (by omega)
      have hlen := part_len zs k hk
      have hc2 : wr.cell? ⟨w.heap.size, k, none⟩ = some (.int .i64 ((part zs k zs.length).getD k 0)) := by
        rw [hcell]; simp [List.getD, List.getElem?_eq_getElem (show k < (part zs k zs.length).length by omega)]
      have hfr := hown.frozenAt k
      have hst := hown.stored k (.int .i64 (zs.getD k 0))
      rw [part_set zs k hlt] at hst
      have Hst := Lib.hid hst
      have Hown := Lib.hid hown
      have Hbr := Lib.hid hbr
      clear hst hown hcell hlen hown0 hbr
      go_wp2
      go_roundw
      case rel =>
        have hnb : w.heap.size ≤ (⟨w.heap.size, k, none⟩ : Addr).block := Nat.le_refl _
        refine ⟨k + 1, by omega, by go_num, by have := Hst.out.1; rw [getD_eq _ _ hlt] at this; exact this, Hbr.out.setCell hnb _⟩
      case measure => simp [intOf]; omega
    · go_wp2
      go_ret
      have hkl : k = zs.length := by omega
      subst hkl
      refine ⟨_, _, rfl, by simpa [part] using hown, hbr⟩
theorem toInt64S_any (a : Option Addr) (len cap : Nat) (zs : List Int) (w : World) (hb : len ≤ 1048576) (hx : IsInts w a len zs) :
    Calls Tryz.prog 30 #[.slice a len cap] w (RetInts w zs) := by
  refine (toInt64S_own a len cap zs w hb hx).mono ?_
  rintro e w' ⟨g, c, rfl, h1, h2⟩
  exact ⟨some ⟨g, 0, none⟩, c, rfl, h1, h2⟩
def marks (k : Nat) (n : Nat) : List Int := (List.range n).map fun j => ((k + j : Nat) : Int)
theorem marks_len (k n : Nat) : (marks k n).length = n := by simp [marks]
theorem marks_getD (k n j : Nat) (h : j < n) : (marks k n).getD j 0 = ((k + j : Nat) : Int) := by
  simp [marks, List.getD, h]
def marked (zs : List Int) (k0 j : Nat) : List Int := marks k0 j ++ zs.drop j
theorem marked_len (zs : List Int) (k0 j : Nat) (h : j ≤ zs.length) : (marked zs k0 j).length = zs.length := by simp [marked, marks_len]; omega
theorem marked_set (zs : List Int) (k0 j : Nat) (h : j < zs.length) : ((marked zs k0 j).map (Value.int .i64)).set j (.int .i64 ((k0 + j : Nat) : Int)) = (marked zs k0 (j + 1)).map (Value.int .i64) := by
  rw [← List.map_set]
  congr 1
  unfold marked
  rw [List.set_append]
  simp only [marks_len, Nat.lt_irrefl, if_false, Nat.sub_self]
  have e : (List.drop j zs) = zs[j] :: List.drop (j + 1) zs := List.drop_eq_getElem_cons h
  rw [e, List.set_cons_zero]
  simp [marks, List.range_succ]

set_option maxHeartbeats 400000 in
theorem markInt64S_any (B : Nat) (a : Option Addr) (len cap : Nat) (zs : List Int) (k0 : Nat) (w : World) (hb : len ≤ 1048576) (hk0 : k0 ≤ 1152921504606846976) (hown : w.ownsRow B 2 1 (.slice a len cap) len (zs.map (Value.int .i64))) :
    Calls Tryz.prog 40 #[.slice a len cap, .int .i64 k0] w fun e w' =>
      e = .returned (.int .i64 ((k0 + len : Nat) : Int)) ∧ w'.ownsRow B 2 1 (.slice a len cap) len ((marks k0 len).map (Value.int .i64)) ∧ w.grownBy w' (Value.ownBlock (.slice a len cap)) := by
  have hlz : zs.length = len := by simpa using hown.1
  subst hlz
  go_enter Tryz.func40, Tryz.ntmps40
  go_wp2
  go_loopw [5, 1] (fun i m wr => ∃ j : Nat, j ≤ zs.length ∧ i = .int .i64 j ∧ m = .int .i64 ((k0 + j : Nat) : Int) ∧ wr.ownsRow B 2 1 (.slice a zs.length cap) zs.length ((marked zs k0 j).map (Value.int .i64)) ∧ w.grownBy wr (Value.ownBlock (.slice a zs.length cap))) (fun i _ _ => zs.length - (intOf i).toNat)
  case atStart => exact ⟨0, Nat.zero_le _, rfl, rfl, by simpa [marked, marks] using hown, World.grownBy.refl _ _⟩
  case round =>
    obtain ⟨j, hj, rfl, rfl, hown, hgr⟩ := hrel
    by_cases hlt : j < zs.length
    · obtain ⟨b, off, ha, h1⟩ := (IsInts.of_own (zs := marked zs k0 j) hown).at hlt
      have hlen := marked_len zs k0 j hj
      rcases hown.2 with ⟨e, h0⟩ | ⟨g, c, cur, e, hB, hg, _⟩
      · omega
      simp only [Value.slice.injEq] at e
      obtain ⟨e, _, rfl⟩ := e
      subst e
      simp only [Option.some.injEq, Addr.mk.injEq] at ha
      obtain ⟨rfl, rfl, _⟩ := ha
      rw [Nat.zero_add] at h1
      have hfr := hown.frozenAt j
      have hst := hown.stored j (.int .i64 ((k0 + j : Nat) : Int))
      rw [marked_set zs k0 j hlt] at hst
      have Hst := Lib.hid hst
      have Hgr := Lib.hid hgr
      have hk0 : (0:Int) ≤ (j:Int) := by omega
      have hkl : (j:Int) < (zs.length:Int) := by omega
      clear hst hown hlen hgr hg
      go_wp2
      go_roundw
      case rel =>
        refine ⟨j + 1, by omega, by go_num, by go_num, ?_, ?_⟩
        · have := Hst.out.1; simpa using this
        · exact grownBy_trans Hgr.out (by simpa [Value.ownBlock] using Hst.out.2)
      case measure => simp [intOf]; omega
    · go_wp2
      go_ret
      have hkl : j = zs.length := by omega
      subst hkl
      refine ⟨rfl, by simpa [marked] using hown, hgr⟩
set_option maxHeartbeats 400000 in
theorem heldInt64S_any (a : Option Addr) (len cap : Nat) (zs : List Int) (k0 : Nat) (w : World) (hb : len ≤ 1048576) (hk0 : k0 ≤ 1152921504606846976) (hz : zs = marks k0 len) (hx : IsInts w a len zs) :
    Calls Tryz.prog 42 #[.slice a len cap, .int .i64 k0] w fun e w' => e = .returned (.int .i64 ((k0 + len : Nat) : Int)) ∧ Below w.heap.size w w' := by
  have Hz := Lib.hid hz
  clear hz
  go_enter Tryz.func42, Tryz.ntmps42
  go_wp2
  go_loopw [5, 1] (fun i m wr => ∃ j : Nat, j ≤ len ∧ i = .int .i64 j ∧ m = .int .i64 ((k0 + j : Nat) : Int) ∧ ∃ n, wr = w.drewN n) (fun i _ _ => len - (intOf i).toNat)
  case atStart => exact ⟨0, Nat.zero_le _, rfl, rfl, 0, rfl⟩
  case round =>
    obtain ⟨j, hj, rfl, rfl, n, rfl⟩ := hrel
    by_cases hlt : j < len
    · obtain ⟨b, off, ha, h1⟩ := hx.at hlt
      subst ha
      have h2 : w.cell? ⟨b, off + j, none⟩ = some (.int .i64 ((k0 : Int) + (j : Int))) := by
        rw [h1, Hz.out, marks_getD k0 len j hlt]; simp
      clear h1
      have hk0 : (0:Int) ≤ (j:Int) := by omega
      have hkl : (j:Int) < (len:Int) := by omega
      go_wp2
      go_roundw
      case rel => exact ⟨j + 1, by omega, by go_num, by go_num, _, rfl⟩
      case measure => simp [intOf]; omega
    · go_wp2
      go_ret
      have hkl : j = len := by omega
      subst hkl
      exact ⟨rfl, drewN_below w _⟩
end Go.Proofs.YtaneocedklnajaaGreat

import Derived.Test.YtjkbldkcjjaonaaDoorGrow
import Derived.Test.YtjkbldkcjjaonaaDoorBin
import Derived.Test.YtjkbldkcjjaonaaDoorBits
import Derived.Test.YtjkbldkcjjaonaaDoorShelf
/- Fair bits out of a block: ways to choose in the program and the reference. Condition: numbers up to 16. -/
namespace Go.Proofs.YtjkbldkcjjaonaaDoor
open Go.RowKit
set_option linter.unusedVariables false

theorem mulU_any (a b p : Int) (w : World) (ha : 0 ≤ a) (ha2 : a ≤ 1048576) (hb : 0 ≤ b) (hb2 : b ≤ 1048576) (hp : a * b = p) :
    Calls Tryd.prog 32 #[.int .u64 a, .int .u64 b] w fun e w' => e = .returned (.tuple #[.int .u64 0, .int .u64 p]) ∧ w' = w := by
  obtain ⟨x, rfl⟩ := Int.eq_ofNat_of_zero_le ha
  obtain ⟨y, rfl⟩ := Int.eq_ofNat_of_zero_le hb
  refine (Tryd.bits_Mul64 x y (by omega) (by omega) w).mono ?_
  rintro e w' ⟨rfl, rfl⟩
  have h1 : x * y ≤ 1048576 * 1048576 := Nat.mul_le_mul (by omega) (by omega)
  have h2 : x * y / 18446744073709551616 = 0 := Nat.div_eq_of_lt (by omega)
  have h3 : x * y % 18446744073709551616 = x * y := Nat.mod_eq_of_lt (by omega)
  rw [h2, h3, ← hp]
  exact ⟨by simp, rfl⟩
set_option maxRecDepth 100000 in
set_option maxHeartbeats 400000 in
theorem divU_any (p d Q : Int) (w : World) (hd : 1 ≤ d) (hd2 : d ≤ 1048576) (hQ : 0 ≤ Q) (hQ2 : Q ≤ 1099511627776) (hp : p = Q * d) :
    Calls Tryd.prog 33 #[.int .u64 0, .int .u64 p, .int .u64 d] w (Ret w (.tuple #[.int .u64 Q, .int .u64 0])) := by
  have hd0 : (d == 0) = false := by simp; omega
  have hle : ¬ d ≤ 0 := by omega
  have hpb : 0 ≤ p ∧ p ≤ 1152921504606846976 := by
    rw [hp]
    exact ⟨Int.mul_nonneg hQ (by omega), by
      have := Int.mul_le_mul hQ2 hd2 (by omega) (by omega)
      omega⟩
  have hdiv : Int.tdiv p d = Q := by rw [hp]; exact Int.mul_tdiv_cancel _ (by omega)
  have hmod : Int.tmod p d = 0 := by rw [hp]; exact Int.mul_tmod_left _ _
  have hdne : d ≠ 0 := by omega
  clear hp
  go_enter Tryd.func33, Tryd.ntmps33
  go_wp2_with fail
  go_quiet (fail)
  go_wp2
  go_ret2
  exact ⟨rfl, drewN_below _ _⟩
set_option maxHeartbeats 400000 in
theorem l06Choose_any (n k : Nat) (w : World) (hn : n ≤ 16) (hk : k ≤ 16) :
    Calls Tryd.prog 18 #[.int .i64 n, .int .i64 k] w fun e w' => e = .returned (.int .i64 (bin n k : Nat)) ∧ w' = w := by
  have hb := fun i => bin_le_pow n i
  have hp : 2 ^ n ≤ 65536 := Nat.pow_le_pow_right (by omega) hn
  have HB := Lib.hid (fun i => Nat.le_trans (hb i) hp)
  clear hb hp
  go_enter Tryd.func18, Tryd.ntmps18
  go_wp2
  go_loop [6, 5] (fun i x => ∃ q : Nat, q ≤ k ∧ i = .int .i64 (q : Nat) ∧ x = .int .i64 (bin n q : Nat)) (fun i _ => k - (intOf i).toNat)
  case atStart => exact ⟨0, Nat.zero_le _, rfl, by rw [bin_zero]; rfl⟩
  case round =>
    obtain ⟨q, hq, rfl, rfl⟩ := hrel
    by_cases hlt : q < k
    · have h1 := HB.out q
      have h2 := HB.out (q + 1)
      have hq0 : (0:Int) ≤ (q:Int) := by omega
      have hqk : (q:Int) < (k:Int) := by omega
      have hne : ((q:Int) + 1 == 0) = false := by simp; omega
      have hne2 : (q:Int) + 1 ≠ 0 := by omega
      have hm : ((bin n q : Nat) : Int) * ((n:Int) - (q:Int)) = ((bin n (q + 1) : Nat) : Int) * ((q:Int) + 1) := by
        rcases Nat.lt_or_ge n q with h | h
        · rw [bin_big h, bin_big (show n < q + 1 by omega)]; simp
        · have := congrArg (fun x : Nat => (x : Int)) (bin_next h)
          simp only [Int.natCast_mul, Int.natCast_add, Int.natCast_sub h] at this
          grind
      obtain ⟨X, hX⟩ : ∃ X, bin n q = X := ⟨_, rfl⟩
      obtain ⟨Y, hY⟩ : ∃ Y, bin n (q + 1) = Y := ⟨_, rfl⟩
      rw [hX, hY] at hm
      rw [hX] at h1
      rw [hY] at h2
      have hbd : ((X:Int) * ((n:Int) - (q:Int))) = ((Y:Int) * ((q:Int) + 1)) := hm
      have hYb : (Y:Int) * ((q:Int) + 1) ≤ 65536 * 17 := Int.mul_le_mul (by omega) (by omega) (by omega) (by omega)
      have hY0 : 0 ≤ (Y:Int) * ((q:Int) + 1) := Int.mul_nonneg (by omega) (by omega)
      have hdiv : Int.tdiv ((Y:Int) * ((q:Int) + 1)) ((q:Int) + 1) = Y := Int.mul_tdiv_cancel _ (by omega)
      have HY := Lib.hid (And.intro hY hX)
      clear hY hX
      obtain ⟨Z, hZ⟩ : ∃ Z, (Y:Int) * ((q:Int) + 1) = Z := ⟨_, rfl⟩
      rw [hZ] at hm hYb hY0 hdiv
      clear hbd hZ
      go_wp2
      go_round
      case rel => exact ⟨q + 1, by omega, by go_num, by rw [HY.out.1, HY.out.2, hm, wrap_in Z (by omega) (by omega), hdiv, wrap_in (Y:Int) (by omega) (by omega)]⟩
      case measure => simp [intOf]; omega
    · obtain rfl : q = k := by omega
      go_wp2
      go_ret
      exact ⟨rfl, rfl⟩
set_option maxHeartbeats 400000 in
theorem choose_any (n k : Nat) (w : World) (hn : n ≤ 16) (hk : k ≤ 16) :
    Calls Tryd.prog 20 #[.int .i64 n, .int .i64 k] w (Ret w (.int .i64 (bin n k : Nat))) := by
  have hp : 2 ^ n ≤ 65536 := Nat.pow_le_pow_right (by omega) hn
  have HB := Lib.hid (fun i => Nat.le_trans (bin_le_pow n i) hp)
  clear hp
  by_cases hkn : k ≤ n
  · have hin : inR k 0 n = true := by unfold inR; simp; omega
    go_enter Tryd.func20, Tryd.ntmps20
    go_wp2_with fail
    refine (inRange_any _ _ _ _).mono ?_
    rintro e w1 ⟨rfl, rfl⟩
    rw [hin]
    obtain ⟨M, hM⟩ : ∃ M, min k (n - k) = M := ⟨_, rfl⟩
    have hbM : bin n M = bin n k := by
      rw [← hM]
      rcases Nat.le_total k (n - k) with h | h
      · rw [Nat.min_eq_left h]
      · rw [Nat.min_eq_right h, bin_symm hkn]
    have hmi : min (k:Int) ((n:Int) - (k:Int)) = (M:Int) := by omega
    have hMn : M ≤ n := by omega
    have HBM := Lib.hid hbM
    clear hbM hM
    go_wp2
    go_loopw [6, 5] (fun i x wr => ∃ q : Nat, q ≤ M ∧ i = .int .i64 ((q + 1 : Nat) : Int) ∧ x = .int .i64 (bin n q : Nat) ∧ Hid (Below w.heap.size w wr)) (fun i _ _ => M + 1 - (intOf i).toNat)
    case atStart => exact ⟨0, Nat.zero_le _, rfl, by rw [bin_zero]; rfl, Lib.hid (Below.refl _ _)⟩
    case round =>
      obtain ⟨q, hq, rfl, rfl, HQ⟩ := hrel
      by_cases hlt : q < M
      · have h1 := HB.out q
        have h2 := HB.out (q + 1)
        have hm : ((bin n q : Nat) : Int) * ((n:Int) - (q:Int)) = ((bin n (q + 1) : Nat) : Int) * ((q:Int) + 1) := by
          have := congrArg (fun x : Nat => (x : Int)) (bin_next (show q ≤ n by omega))
          simp only [Int.natCast_mul, Int.natCast_add, Int.natCast_sub (show q ≤ n by omega)] at this
          grind
        obtain ⟨X, hX⟩ : ∃ X, bin n q = X := ⟨_, rfl⟩
        obtain ⟨Y, hY⟩ : ∃ Y, bin n (q + 1) = Y := ⟨_, rfl⟩
        rw [hX, hY] at hm
        rw [hX] at h1
        rw [hY] at h2
        rw [hX]
        obtain ⟨Z, hZ⟩ : ∃ Z, (Y:Int) * ((q:Int) + 1) = Z := ⟨_, rfl⟩
        rw [hZ] at hm
        have HM := Lib.hid (And.intro hm (And.intro hZ hY))
        have hle1 : (q:Int) + 1 ≤ (M:Int) := by omega
        have hqn : (q:Int) + 1 ≤ (n:Int) := by omega
        have hn16 : (n:Int) ≤ 16 := by omega
        clear hm hZ hX hY
        rw [show ((q + 1 : Nat) : Int) = (q:Int) + 1 by omega]
        go_wp2_with fail
        refine (mulU_any _ _ Z _ (by omega) (by omega) (by omega) (by omega) (by rw [← HM.out.1]; congr 1; omega)).mono ?_
        rintro e w1 ⟨rfl, rfl⟩
        go_wp2_with fail
        refine (divU_any _ _ (Y:Int) _ (by omega) (by omega) (by omega) (by omega) HM.out.2.1.symm).mono ?_
        rintro e w2 ⟨rfl, hb2⟩
        have HQ2 := Lib.hid (bthen HQ.out hb2)
        clear hb2
        go_wp2
        go_roundw
        case rel => exact ⟨q + 1, by omega, by go_num, by rw [HM.out.2.2], HQ2⟩
        case measure => simp [intOf]; omega
      · obtain rfl : q = M := by omega
        have hle1 : ¬ (q:Int) + 1 ≤ (q:Int) := by omega
        rw [show ((q + 1 : Nat) : Int) = (q:Int) + 1 by omega]
        go_wp2
        go_ret
        exact ⟨by rw [← HBM.out]; rfl, HQ.out⟩
  · have hin : inR k 0 n = false := by unfold inR; simp; omega
    have hz : bin n k = 0 := bin_big (by omega)
    rw [hz]
    go_enter Tryd.func20, Tryd.ntmps20
    go_wp2_with fail
    refine (inRange_any _ _ _ _).mono ?_
    rintro e w1 ⟨rfl, rfl⟩
    rw [hin]
    go_wp2
    go_ret
    exact ⟨rfl, Below.refl _ _⟩
/-- The lower bits of a number, the greatest first, as texts have them. -/
def bitsP (x j t : Nat) : List Int := (List.range t).map fun (i : Nat) => 48 + ((x / 2 ^ (j - 1 - i) % 2 : Nat) : Int)
theorem bitsP_succ (x j t : Nat) : bitsP x j (t + 1) = bitsP x j t ++ [48 + ((x / 2 ^ (j - 1 - t) % 2 : Nat) : Int)] := by simp [bitsP, List.range_succ]
theorem and_bit (x e : Nat) (hx : x ≤ 65536) (he : e ≤ 17) : bits .and .i64 ((x : Int) / (2 : Int) ^ e) 1 = ((x / 2 ^ e % 2 : Nat) : Int) := by
  have h1 : (x : Int) / (2 : Int) ^ e = ((x / 2 ^ e : Nat) : Int) := by simp
  have h2 : x / 2 ^ e ≤ x := Nat.div_le_self _ _
  have h3 := and_i64 (x / 2 ^ e) 1 (by omega) (by omega)
  rw [h1]
  rw [Nat.and_one_is_mod] at h3
  exact h3
theorem bitText_any (x : Int) (w : World) (hx : x = 0 ∨ x = 1) : Calls Tryd.prog 35 #[.int .i64 x] w fun e w' => e = .returned (.int .u8 (48 + x)) ∧ w' = w := by
  rcases hx with rfl | rfl
  · go_enter Tryd.func35, Tryd.ntmps35
    go_wp2
    go_ret
    exact ⟨rfl, rfl⟩
  · go_enter Tryd.func35, Tryd.ntmps35
    go_wp2
    go_ret
    exact ⟨rfl, rfl⟩
theorem Tryd.infoB9 : (Tryd.prog.info? 5).map (fun i => (i.zero, i.size, i.bytes)) = some (some (.int .u8 0), 1, 1) := by kernel_rfl
theorem GrowAt.byte {w0 wr w6 : World} {v v' : Value} {n : Nat} {xs : List Int} {z : Int} {o : Obj} (h : GrowAt w0 wr 5 v n (xs.map (Value.int .u8))) (hown : w6.ownsRow w0.heap.size 5 1 v' (n + 1) (xs.map (Value.int .u8) ++ [.int .u8 z])) (hg : (wr.alloc o).grownBy w6 v.ownBlock) : GrowAt w0 w6 5 v' (n + 1) ((xs ++ [z]).map (Value.int .u8)) := by
  rw [List.map_append]
  exact (h.alloc o).push hown hg
set_option maxHeartbeats 400000 in
theorem bitsOf_any (x j : Nat) (w : World) (hx : x ≤ 65536) (hj : j ≤ 16) : Calls Tryd.prog 22 #[.int .i64 x, .int .i64 j] w (Ret w (.string (strOfNums (bitsP x j j)))) := by
  have HG := Lib.hid (GrowAt.start w 5)
  go_enter Tryd.func22, Tryd.ntmps22
  go_wp2
  go_loopw [6, 5] (fun i v wr => ∃ (t m : Nat) (z : Int), m + t = j ∧ z = (m:Int) - 1 ∧ i = .int .i64 z ∧ Hid (GrowAt w wr 5 v t ((bitsP x j t).map (Value.int .u8)))) (fun i _ _ => (intOf i + 1).toNat)
  case atStart => exact ⟨0, j, _, by omega, rfl, rfl, HG⟩
  case round =>
    clear HG
    obtain ⟨t, m, z, hm, hz, rfl, HG⟩ := hrel
    cases m with
    | succ e =>
      obtain rfl : z = (e:Int) := by omega
      have he0 : (0:Int) ≤ (e:Int) := by omega
      have he1 : (e:Int) ≤ 16 := by omega
      have hst := bitsP_succ x j t
      rw [show j - 1 - t = e by omega] at hst
      have hand := and_bit x e hx (by omega)
      obtain ⟨b, hb⟩ : ∃ b : Int, ((x / 2 ^ e % 2 : Nat) : Int) = b := ⟨_, rfl⟩
      have hb01 : b = 0 ∨ b = 1 := by omega
      rw [hb] at hst hand
      have HST := Lib.hid hst
      have HBT := Lib.hid (fun w => bitText_any b w hb01)
      have hsz := HG.out.2.size
      have HG1 := Lib.hid (HG.out.alloc (.cells #[.int .u8 (48 + b)] 5))
      clear hst hb hz
      go_wp2_with fail
      refine (HBT.out _).mono ?_
      rintro e' w1 ⟨rfl, rfl⟩
      go_wp2_with (at_builtin; refine wpList_ap1 rfl (.tmp 14) (.tmp 20) 37 rfl w.heap.size 5 (.int .u8 0) 1 Tryd.underlying37 Tryd.infoB9 rfl _ t _ rfl HG1.out.1 w1.heap.size (.int .u8 (48 + b)) rfl (by go_simp) rfl (by omega) (by omega) HG1.out.2.size ?_)
      intro v' w6 hown hgrow _
      have HG2 := Lib.hid (show GrowAt w w6 5 v' (t + 1) ((bitsP x j (t + 1)).map (Value.int .u8)) by rw [HST.out]; exact HG.out.byte hown hgrow)
      clear hown hgrow
      go_wp2
      go_roundw
      case rel => exact ⟨t + 1, e, _, by omega, rfl, rfl, HG2⟩
      case measure => simp [intOf]
    | zero =>
      obtain rfl : z = -1 := by omega
      obtain rfl : t = j := by omega
      clear hz hm
      have hcb := conv_own (P := Tryd.prog) 37 9 Tryd.underlying37 Tryd.underlying5 Tryd.underlying9 HG.out.1
      go_wp2
      go_ret
      exact ⟨rfl, HG.out.2⟩
end Go.Proofs.YtjkbldkcjjaonaaDoor

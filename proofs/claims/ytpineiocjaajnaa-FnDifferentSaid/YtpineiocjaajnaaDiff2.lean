import Derived.Test.YtpineiocjaajnaaDiff1
/- The law of different kinds: the program. No condition. -/
namespace Go.Proofs.Ytpineiocjaajnaa
open Go.RowKit
set_option linter.unusedVariables false

theorem different_no (K D : Int) (w : World) (h : okD K D = false) : Calls Try.prog 20 #[.int .i64 K, .int .i64 D] w (RetLaw w false [] []) := by
  have hz : LawAt ((w.alloc zeroLaw)) w.heap.size (.slice none 0 0) (.slice none 0 0) [] [] := ⟨⟨rfl, Or.inl ⟨rfl, rfl⟩⟩, ⟨rfl, Or.inl ⟨rfl, rfl⟩⟩, Or.inl rfl⟩
  cases h1 : inR K 1 20 with
  | false =>
    have HR := Lib.hid h1
    clear h h1
    go_enter Try.func20, Try.ntmps20
    go_wp2_with fail
    refine (inRange_any _ _ _ _).mono ?_
    rintro e w1 ⟨rfl, rfl⟩
    rw [HR.out]
    go_wp2_with fail
    refine bodyPost_ret (v := .tuple #[.agg #[.slice none 0 0, .slice none 0 0], .bool false]) (by simp [results, Try.results20, go_sem, *]) rfl ⟨_, _, rfl, hz, (Below.refl _ _).alloc (Nat.le_refl _) _⟩
  | true =>
    have h2 : inR D 1 12 = false := by unfold okD at h; rw [h1] at h; simpa using h
    have HR := Lib.hid (And.intro h1 h2)
    clear h h1 h2
    go_enter Try.func20, Try.ntmps20
    go_wp2_with fail
    refine (inRange_any _ _ _ _).mono ?_
    rintro e w1 ⟨rfl, rfl⟩
    rw [HR.out.1]
    go_wp2_with fail
    refine (inRange_any _ _ _ _).mono ?_
    rintro e w1 ⟨rfl, rfl⟩
    rw [HR.out.2]
    go_wp2_with fail
    refine bodyPost_ret (v := .tuple #[.agg #[.slice none 0 0, .slice none 0 0], .bool false]) (by simp [results, Try.results20, go_sem, *]) rfl ⟨_, _, rfl, hz, (Below.refl _ _).alloc (Nat.le_refl _) _⟩
set_option maxRecDepth 100000 in
set_option maxHeartbeats 3200000 in
theorem different_yes (K D : Nat) (w : World) (hK1 : 1 ≤ K) (hK : K ≤ 20) (hD1 : 1 ≤ D) (hD : D ≤ 12) : Calls Try.prog 20 #[.int .i64 (K : Nat), .int .i64 (D : Nat)] w (RetLaw w true (dfV K D) (dfL K D)) := by
  obtain ⟨i0, hi, hz0, hz1, hz2⟩ := info_parts Try.infoI
  have h1 : inR (K : Int) 1 20 = true := by unfold inR; simp; omega
  have h2 : inR (D : Int) 1 12 = true := by unfold inR; simp; omega
  have HR := Lib.hid (And.intro h1 h2)
  have HP := Lib.hid (fun i (h : i ≤ D) => pow_kinds (K := K) (D := i) hK (by omega))
  have HP1 := Lib.hid (fun i => Nat.pow_pos (a := K) (n := i) (by omega))
  obtain ⟨Q, hQ⟩ : ∃ Q, 1000000000000000000 / K = Q := ⟨_, rfl⟩
  have hQ1 : (1000000000000000000 : Int) / (K : Int) = (Q : Int) := by rw [← hQ]; simp
  have hQ2 : Int.tdiv 1000000000000000000 (K : Int) = (Q : Int) := by rw [Int.tdiv_eq_ediv_of_nonneg (by omega)]; exact hQ1
  have HQ := Lib.hid (fun i (h : i + 1 ≤ D) => show K ^ i ≤ Q by
    have e := Nat.pow_succ K i
    have h3 := pow_kinds (K := K) (D := i + 1) hK (by omega)
    rw [← hQ, Nat.le_div_iff_mul_le (by omega)]
    have e2 : K ^ (i + 1) = K ^ i * K := e
    omega)
  have hQb : Q ≤ 1000000000000000000 := by rw [← hQ]; exact Nat.div_le_self _ _
  clear hQ h1 h2
  have HA : Below w.heap.size w (w.alloc zeroLaw) := (Below.refl _ _).alloc (Nat.le_refl _) _
  obtain ⟨wA, hwA⟩ : ∃ w', w.alloc zeroLaw = w' := ⟨_, rfl⟩
  have hbx : LBox wA w.heap.size (.slice none 0 0) (.slice none 0 0) := by rw [← hwA]; exact heap_at_new _ _
  rw [hwA] at HA
  unfold zeroLaw at hwA
  have hsz : w.heap.size < wA.heap.size := by rw [← hwA]; simp
  have H0 := Lib.hid (And.intro HA (And.intro hbx hsz))
  clear hbx HA hsz
  have hK0 : (0:Int) < (K:Int) := by omega
  have hKne : ((K:Int) == 0) = false := by simp; omega
  have hKne2 : (K:Int) ≠ 0 := by omega
  have HZ := Lib.hid (zeros_toList (K + 1))
  have HST := Lib.hid (dc_start K (K + 1) (by omega))
  go_enter Try.func20, Try.ntmps20
  go_wp2_with fail
  refine (inRange_any _ _ _ _).mono ?_
  rintro e w1 ⟨rfl, rfl⟩
  rw [HR.out.1]
  go_wp2_with fail
  refine (inRange_any _ _ _ _).mono ?_
  rintro e w1 ⟨rfl, rfl⟩
  rw [HR.out.2]
  go_wp2
  go_loopw [21, 6] (fun v21 v6 wx => ∃ i : Nat, i ≤ D ∧ v21 = .int .i64 (i : Nat) ∧ v6 = .int .i64 ((K ^ i : Nat) : Int) ∧ wx = wA) (fun v21 _ _ => D - (intOf v21).toNat)
  case atStart => exact ⟨0, Nat.zero_le _, rfl, by simp, rfl⟩
  case round =>
    obtain ⟨i, hiD, rfl, rfl, rfl⟩ := hrel
    by_cases hlt : i < D
    · have hi0 : (0:Int) ≤ (i:Int) := by omega
      have hii : (i:Int) < (D:Int) := by omega
      have b1 := HP.out i (by omega)
      have b2 := HP.out (i + 1) (by omega)
      have b3 := HQ.out i (by omega)
      have hm : K ^ (i + 1) = K ^ i * K := Nat.pow_succ K i
      obtain ⟨X, hX⟩ : ∃ X, K ^ i = X := ⟨_, rfl⟩
      obtain ⟨Y, hY⟩ : ∃ Y, K ^ (i + 1) = Y := ⟨_, rfl⟩
      rw [hX, hY] at hm
      rw [hX] at b1 b3 ⊢
      rw [hY] at b2
      have HY := Lib.hid hY
      have hmi : (X : Int) * (K : Int) = (Y : Int) := by rw [hm]; simp
      have hww : IntKind.i64.wrap ((X : Int) * (K : Int)) = (Y : Int) := by rw [hmi]; exact IntWalk.i64_in _ (by omega)
      have b3i : (X : Int) ≤ (Q : Int) := by omega
      clear hX hY hm hmi
      go_wp2
      go_roundw
      case rel => exact ⟨i + 1, by omega, by go_num, by rw [HY.out], trivial⟩
      case measure => simp [intOf]; omega
    · obtain rfl : i = D := by omega
      have ball := HP.out i (Nat.le_refl _)
      have pall := HP1.out i
      obtain ⟨X, hX⟩ : ∃ X, K ^ i = X := ⟨_, rfl⟩
      rw [hX] at ball pall ⊢
      have HXX := Lib.hid hX
      clear hX
      obtain ⟨wb, hwb⟩ : ∃ wb : World, wb = wr := ⟨_, rfl⟩
      subst hwb
      go_wp2_with (at_make; refine wpList_make_full _ rfl _ _ 24 rfl wb.heap.size 2 i0 (.int .i64 0) 1 Try.underlying24 hi hz0 hz1 _ _ _ _ (K + 1) rfl rfl ?cL ?cC ?c1 ?c2 ?c3 ?_)
      case cL => push_cast; rfl
      case cC => push_cast; rfl
      case c1 => rw [hz2]; omega
      case c2 => unfold maxLen; omega
      case c3 => exact Nat.le_refl _
      intro w1 hown hgrow
      have hO : OwnI wb w1 wb.heap.size (K + 1) (List.replicate (K + 1) 0) := ⟨by rw [HZ.out] at hown; exact hown, (Below.refl _ _).grown hgrow (Nat.le_refl _) (by simp)⟩
      have c1 := hO.cell (show 0 < K + 1 by omega)
      have f1 := hO.frozen 0
      have hO2 := hO.set 0 1
      rw [HST.out] at hO2
      have HO := Lib.hid hO2
      clear hown hgrow hO hO2
      obtain ⟨g0, hg0⟩ : ∃ g, wb.heap.size = g := ⟨_, rfl⟩
      rw [hg0] at HO c1 f1 ⊢
      clear hg0
      have hK1i : (0:Int) < (K:Int) + 1 := by omega
      go_wp2
      go_loopw [38, 7] (fun v38 v7 wr => ∃ (d g : Nat), d ≤ i ∧ v38 = .int .i64 (d : Nat) ∧ v7 = .slice (some ⟨g, 0, none⟩) (K + 1) (K + 1) ∧ Hid (OwnI wb wr g (K + 1) (dcI K d (K + 1)))) (fun v38 _ _ => i - (intOf v38).toNat)
      case atStart => exact ⟨0, g0, Nat.zero_le _, rfl, rfl, HO⟩
      case round =>
        clear HO c1 f1
        obtain ⟨d, g, hd, rfl, rfl, HO⟩ := hrel
        by_cases hdi : d < i
        · have hd0 : (0:Int) ≤ (d:Int) := by omega
          have hdii : (d:Int) < (i:Int) := by omega
          obtain ⟨wa, hwa⟩ : ∃ wa : World, wa = wr := ⟨_, rfl⟩
          subst hwa
          go_wp2_with (at_make; refine wpList_make_full _ rfl _ _ 24 rfl wa.heap.size 2 i0 (.int .i64 0) 1 Try.underlying24 hi hz0 hz1 _ _ _ _ (K + 1) rfl rfl ?cL ?cC ?c1 ?c2 ?c3 ?_)
          case cL => push_cast; rfl
          case cC => push_cast; rfl
          case c1 => rw [hz2]; omega
          case c2 => unfold maxLen; omega
          case c3 => exact Nat.le_refl _
          intro w2 hown hgrow
          have HX := Lib.hid (show OwnI wa w2 wa.heap.size (K + 1) (ndI K d (K + 1) 0) from ⟨by rw [HZ.out, nd_start K d (K + 1)] at hown; exact hown, (Below.refl _ _).grown hgrow (Nat.le_refl _) (by simp)⟩)
          clear hown hgrow
          have hgl := HO.out.lt.2
          obtain ⟨g2, hg2⟩ : ∃ g2, wa.heap.size = g2 := ⟨_, rfl⟩
          rw [hg2] at HX hgl ⊢
          have hgne : g ≠ g2 := by omega
          have hgne2 : g2 ≠ g := by omega
          clear hg2
          go_wp2
          go_loopw [45] (fun v45 wx => ∃ t : Nat, t ≤ K + 1 ∧ v45 = .int .i64 (t : Nat) ∧ Hid (OwnI wa wx g2 (K + 1) (ndI K d (K + 1) t))) (fun v45 _ => K + 1 - (intOf v45).toNat)
          case atStart => exact ⟨0, Nat.zero_le _, rfl, HX⟩
          case round =>
            clear HX
            obtain ⟨t, ht, rfl, HX⟩ := hrel
            by_cases htK : t < K + 1
            · have ht0 : (0:Int) ≤ (t:Int) := by omega
              have hti : (t:Int) < (K:Int) + 1 := by omega
              have c1 := HX.out.cell htK
              have f1 := HX.out.frozen t
              have c2 := (HO.out.after HX.out.2).cell htK
              rw [ndI_at htK] at c1
              rw [dcI_at htK] at c2
              obtain ⟨s1, s2, s3⟩ := nd_small (K := K) (d := d) (t := t) hK (by omega) (by omega)
              have sc := dc_small (K := K) (d := d) (j := t) hK (by omega)
              have hone := nd_one K d (K + 1) t
              have htwo := nd_two K d (K + 1) t
              have hkm := kind_mul K d t
              have hkm2 : ((dcF K d t : Nat) : Int) * (t : Int) = ((t * dcF K d t : Nat) : Int) := by push_cast; rw [Int.mul_comm]
              have hkm3 : ((dcF K d t : Nat) : Int) * ((K : Int) - (t : Int)) = (((K - t) * dcF K d t : Nat) : Int) := by rw [Int.mul_comm]; exact hkm
              obtain ⟨N, hN⟩ : ∃ N, nd K d t t = N := ⟨_, rfl⟩
              obtain ⟨Z1, hZ1⟩ : ∃ Z, t * dcF K d t = Z := ⟨_, rfl⟩
              obtain ⟨Z2, hZ2⟩ : ∃ Z, (K - t) * dcF K d t = Z := ⟨_, rfl⟩
              rw [hN] at c1 s1 hone htwo
              rw [hZ1] at s2 hone htwo hkm2
              rw [hZ2] at s3 htwo hkm3
              obtain ⟨c, hc⟩ : ∃ c, dcF K d t = c := ⟨_, rfl⟩
              rw [hc] at c2 sc hkm2 hkm3
              rw [show ((N + Z1 : Nat) : Int) = (N : Int) + (Z1 : Int) by omega] at hone htwo
              have HNX := Lib.hid (And.intro hone htwo)
              have w1 : IntKind.i64.wrap ((c : Int) * (t : Int)) = (Z1 : Int) := by rw [hkm2]; exact IntWalk.i64_in _ (by omega)
              have w2' : IntKind.i64.wrap ((N : Int) + (Z1 : Int)) = (N : Int) + (Z1 : Int) := IntWalk.i64_in _ (by omega)
              have w3 : IntKind.i64.wrap ((c : Int) * ((K : Int) - (t : Int))) = (Z2 : Int) := by rw [hkm3]; exact IntWalk.i64_in _ (by omega)
              clear hone htwo hkm hN hZ1 hZ2 hc
              by_cases hlast : t < K
              · have hlk : (t:Int) < (K:Int) := by omega
                have hlk1 : (t:Int) + 1 < (K:Int) + 1 := by omega
                have hlk0 : (0:Int) ≤ (t:Int) + 1 := by omega
                have c3 := HX.out.cell (show t + 1 < K + 1 by omega)
                have f3 := HX.out.frozen (t + 1)
                rw [ndI_at (by omega), nd_zero] at c3
                have HF := Lib.hid (by have h := (HX.out.set t ((N : Int) + (Z1 : Int))).set (t + 1) (Z2 : Int); rw [HNX.out.2 (by omega)] at h; exact h)
                clear HX
                go_wp2
                go_roundw
                case rel => exact ⟨t + 1, by omega, by go_num, HF⟩
                case measure => simp [intOf]; omega
              · have hlk : ¬ (t:Int) < (K:Int) := by omega
                have HF := Lib.hid (by have h := HX.out.set t ((N : Int) + (Z1 : Int)); rw [HNX.out.1 (by omega)] at h; exact h)
                clear HX
                go_wp2
                go_roundw
                case rel => exact ⟨t + 1, by omega, by go_num, HF⟩
                case measure => simp [intOf]; omega
            · obtain rfl : t = K + 1 := by omega
              have htK2 : ¬ (((K + 1 : Nat)) : Int) < (K:Int) + 1 := by omega
              have HX2 := Lib.hid (OwnI.base HO.out.2 HX.out)
              rw [nd_end K d (K + 1) (K + 1) (fun j hj => Or.inl hj)] at HX2
              go_wp2
              go_roundw
              case rel => exact ⟨d + 1, g2, by omega, by go_num, by push_cast; rfl, HX2⟩
              case measure => simp [intOf]; omega
        · obtain rfl : d = i := by omega
          go_wp2_with fail
          refine (lawOf_any 0 _ _ _ (dcI K d (K + 1)) X _ (IsInts.of_own HO.out.1) (by omega) (by omega) pall (by omega) (fun j hj => by rw [dcI_at hj]; have := dc_small (K := K) (d := d) (j := j) hK hD; omega)).mono ?_
          rintro e w2 ⟨V, C, rfl, hl, hb⟩
          rw [← HXX.out, (df_one K d).1, (df_one K d).2] at hl
          obtain ⟨a1, c1, rfl⟩ := own_shape hl.val
          obtain ⟨a2, c2, rfl⟩ := own_shape hl.cha
          have hb2 := bthen HO.out.2 hb
          obtain ⟨q1, q2, q3, q4⟩ := pair_cells (LBox.below H0.out.2.1 hb2)
          have hr : w.heap.size < wr.heap.size := Nat.lt_of_lt_of_le H0.out.2.2 HO.out.2.size
          have HF := Lib.hid (And.intro ((law_box hl hr).mono (Nat.le_of_lt hr)) (below_box (wA := wr) (bthen H0.out.1 hb2) (Nat.le_refl _) (u := .slice a1 (dfV K d).length c1) (v := .slice a2 (dfV K d).length c2)))
          clear hl hb hb2 hr
          go_wp2_with fail
          refine bodyPost_ret (v := .tuple #[.agg #[.slice a1 _ c1, .slice a2 _ c2], .bool true]) (by simp [results, Try.results20, go_sem, *]) rfl ⟨_, _, rfl, HF.out.1, HF.out.2⟩
end Go.Proofs.Ytpineiocjaajnaa

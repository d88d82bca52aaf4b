import Derived.Test.YtflgooogiceliaaDoorLawW
/- The law FnParseval: the squares of the spectrum, the nearest sum. Condition: the arguments are few bytes (else the law returns true at once). -/
namespace Go.Proofs.YtflgooogiceliaaDoor
open Go.RowKit
set_option linter.unusedVariables false

theorem isT_size {s : ByteArray} {k : Nat} (hk : k < 7) (hs : s.size = 2 ^ k) (hb : isB s = true) : isT s = true ∧ inpN s = some k := by
  have := inpN_of hb hk hs
  exact ⟨by unfold isT; rw [this]; rfl, this⟩
theorem tabV_yes {s : ByteArray} (h : isT s = true) (z : Int) : tabV s z = z := by unfold tabV; rw [h]; rfl
theorem tabL_yes {s : ByteArray} (h : isT s = true) (L : List Int) : tabL s L = L := by unfold tabL; rw [h]; rfl
theorem sq_le {x : Int} (h : -64 ≤ x ∧ x ≤ 64) : 0 ≤ x * x ∧ x * x ≤ 4096 := by
  have h1 : x.natAbs ≤ 64 := by omega
  have h2 : x * x = ((x.natAbs * x.natAbs : Nat) : Int) := Int.natAbs_mul_self.symm
  rw [h2]
  have := Nat.mul_le_mul h1 h1
  omega
theorem isq_le {L : List Int} (h : ∀ a, -64 ≤ L.getD a 0 ∧ L.getD a 0 ≤ 64) : ∀ m : Nat, 0 ≤ isum (fun a => L.getD a 0 * L.getD a 0) m ∧ isum (fun a => L.getD a 0 * L.getD a 0) m ≤ 4096 * m
  | 0 => by simp [isum]
  | m + 1 => by
    have h1 := isq_le h m
    have h2 := sq_le (h m)
    simp only [isum]
    push_cast
    omega
/-- The facts on a table that the law asks. -/
structure ParF (s : ByteArray) (L : List Int) (n : Nat) (A E : Nat) (far : Int) : Prop where
  len : L.length = n
  small : ∀ a, -64 ≤ L.getD a 0 ∧ L.getD a 0 ≤ 64
  sq : isum (fun a => L.getD a 0 * L.getD a 0) n = (n : Int) * n
  near : A < n
  own : ((dfF (bitF s) A (decide (L.getD A 0 < 0)) n : Nat) : Int) = far
  other : ∀ b e, b < n → far ≤ (dfF (bitF s) b e n : Nat)
theorem parF {s : ByteArray} {k : Nat} (hk : k < 7) (hs : s.size = 2 ^ k) (hb : isB s = true) : ParF s (spS' s) s.size (nrS s).1 0 (nrD s) ∧ (nrS s).2.1 = if (spS' s).getD (nrS s).1 0 < 0 then 1 else 0 := by
  have hn1 : 0 < s.size := by rw [hs]; exact Nat.two_pow_pos k
  have hsz : s.size ≤ 64 := by have := pow_le_64 k hk; omega
  have hok := (nrA_ok (spS' s) s.size (spS'_abs s) s.size).2.2 hn1
  have hat := nrA_at (spS' s) s.size hn1
  have hW : ∀ b e, b < s.size → 2 * ((dfF (bitF s) b e s.size : Nat) : Int) = s.size - (if e then -1 else 1) * (spS' s).getD b 0 := fun b e hb => by
    rw [dfF_sum, spS'_at hb]; rfl
  refine ⟨⟨spS'_len s, fun a => spS'_bound s a hsz, ?_, hok.1, ?_, ?_⟩, hok.2⟩
  · have h := parseval (sgF s) (sgF_or s) hk
    rw [← hs] at h
    rw [← h]
    exact isum_congr _ fun a ha => by rw [spS'_at ha]
  · unfold nrD
    exact (near_own hat rfl (hW _ _ hok.1)).symm
  · intro b e hb
    unfold nrD
    exact near_other (nrA_max (spS' s) s.size b hb) (hW b e hb)
set_option maxRecDepth 100000 in
set_option maxHeartbeats 6400000 in
theorem fnParseval_walk (a a' : Option Addr) (len cap len' cap' : Nat) (bs bs' : List Int) (w : World) (hx : IsU8s w a len bs) (hx' : IsU8s w a' len' bs') :
    Calls Tryd.prog 6 #[.slice a len cap, .slice a' len' cap'] w fun e w' => e = .returned (.bool true) ∧ Below w.heap.size w w' := by
  cases hlong : (decide (48 < len) || decide (48 < len')) with
  | true =>
    go_enter Tryd.func6, Tryd.ntmps6
    go_wp2_with fail
    refine (r8Long_any _ _ _ _ _ _ _).mono ?_
    rintro e w' ⟨rfl, rfl⟩
    rw [hlong]
    go_wp2_with fail
    go_ret
    exact ⟨rfl, Below.refl _ _⟩
  | false =>
    have hlens : len ≤ 48 ∧ len' ≤ 48 := by simpa using hlong
    have HX := Lib.hid hx
    have HX' := Lib.hid hx'
    clear hx hx'
    go_enter Tryd.func6, Tryd.ntmps6
    go_wp2_with fail
    refine (r8Long_any _ _ _ _ _ _ _).mono ?_
    rintro e w' ⟨rfl, rfl⟩
    rw [hlong]
    clear hlong
    go_wp2_with fail
    refine (r8Table_any _ _ _ bs w HX.out (by omega)).mono ?_
    rintro e w1 ⟨s, k, rfl, HT⟩
    obtain ⟨hk4, hsz, hB, hbw1⟩ := HT.out
    obtain ⟨hT, hI⟩ := isT_size (by omega) hsz hB
    obtain ⟨hP, hE⟩ := parF (by omega) hsz hB
    have h64 : s.size ≤ 64 := by have := pow_le_64 k (by omega); omega
    have hn1 : 1 ≤ s.size := by rw [hsz]; exact Nat.one_le_two_pow
    have hml : s.size ≤ maxLen := by unfold maxLen; omega
    have HS := Lib.hid (fun w => spectrumOf_any s w hml)
    have HBa := Lib.hid (fun w => balanceOf_any s w hml)
    have HN := Lib.hid (fun w => nonlinearityOf_any s w hml)
    have HA := Lib.hid (fun w => nearestSumT_any s w hml)
    rw [hT, tabL_yes hT] at HS
    rw [hT, tabV_yes hT] at HBa HN
    rw [hT, tabV_yes hT, tabV_yes hT, hE] at HA
    obtain ⟨L, hL⟩ : ∃ L, spS' s = L := ⟨_, rfl⟩
    obtain ⟨A, hA⟩ : ∃ A, (nrS s).1 = A := ⟨_, rfl⟩
    obtain ⟨D, hD⟩ : ∃ D, nrD s = D := ⟨_, rfl⟩
    rw [hL] at HS HBa hP HA
    rw [hA] at HA hP
    rw [hD] at HN hP
    obtain ⟨z0, hz0⟩ : ∃ z0, L.getD 0 0 = z0 := ⟨_, rfl⟩
    rw [hz0] at HBa
    have HZ := Lib.hid hz0
    clear hz0
    obtain ⟨ev, hev⟩ : ∃ ev : Bool, decide (L.getD A 0 < 0) = ev := ⟨_, rfl⟩
    have hev2 : (if L.getD A 0 < 0 then (1 : Int) else 0) = if ev then 1 else 0 := by rw [← hev]; simp
    rw [hev2] at HA
    have HD := Lib.hid (fun w => r8Differ_any s A ev w h64 hB (Nat.lt_of_lt_of_le hP.near h64))
    have hown := hP.own
    rw [hev] at hown
    have HO := Lib.hid (fun (b : Nat) (e : Bool) (hb : b < s.size) (w : World) => r8Differ_any s b e w h64 hB (by omega))
    have HP := Lib.hid hP
    have Hown := Lib.hid hown
    have Hb1 := Lib.hid hbw1
    clear hk4 hB hT hI hE hL hA hD hev hev2 hown hP hbw1 hsz HT
    go_wp2_with fail
    refine (HS.out _).mono ?_
    rintro e w2 ⟨g, c, rfl, hl, hb2⟩
    rw [HP.out.len] at hl ⊢
    have hl0 := hl.at 0 rfl
    obtain ⟨b0, off, hg, hc0⟩ := hl0.at (show 0 < s.size by omega)
    have HL := Lib.hid hl0
    have Hb2 := Lib.hid (bthen Hb1.out hb2)
    clear hl hl0 hb2 hc0 Hb1
    go_wp2_with fail
    refine (HBa.out _).mono ?_
    rintro e w3 ⟨rfl, hb3⟩
    have HL3 := Lib.hid (HL.out.below hb3)
    have Hb3 := Lib.hid (bthen Hb2.out hb3)
    clear hb3 HL Hb2
    go_wp2_with fail
    refine (HN.out _).mono ?_
    rintro e w4 ⟨rfl, hb4⟩
    have HL4 := Lib.hid (HL3.out.below hb4)
    have Hb4 := Lib.hid (bthen Hb3.out hb4)
    clear hb4 HL3 Hb3
    go_wp2_with fail
    refine (HA.out _).mono ?_
    rintro e w5 ⟨rfl, hb5⟩
    have HL5 := Lib.hid (HL4.out.below hb5)
    have Hb5 := Lib.hid (bthen Hb4.out hb5)
    clear hb5 HL4 Hb4 HA HN HBa HS
    subst hg
    have hc := (HL5.out.at (show 0 < s.size by omega))
    obtain ⟨b1, off1, hg, hc⟩ := hc
    simp only [Option.some.injEq, Addr.mk.injEq] at hg
    obtain ⟨rfl, rfl, _⟩ := hg
    simp only [Nat.add_zero] at hc
    rw [HZ.out] at hc
    obtain ⟨EV, hEV⟩ : ∃ EV : Int, (if ev then (1:Int) else 0) = EV := ⟨_, rfl⟩
    rw [hEV]
    have HEV := Lib.hid hEV
    clear hEV
    go_wp2
    go_loopw [16, 15] (fun i v wr => ∃ (m : Nat) (S : Int), m ≤ s.size ∧ i = .int .i64 (m : Nat) ∧ v = .int .i64 S ∧ Hid (isum (fun a => L.getD a 0 * L.getD a 0) m = S) ∧ Hid (Below w5.heap.size w5 wr)) (fun i _ _ => s.size - (intOf i).toNat)
    case atStart => exact ⟨0, 0, Nat.zero_le _, rfl, rfl, Lib.hid rfl, Lib.hid (Below.refl _ _)⟩
    case round =>
      obtain ⟨m, S, hm, rfl, rfl, HSm, HQ⟩ := hrel
      by_cases hlt : m < s.size
      · obtain ⟨b2, off2, hg2, hcm⟩ := (HL5.out.below HQ.out).at hlt
        simp only [Option.some.injEq, Addr.mk.injEq] at hg2
        obtain ⟨rfl, rfl, _⟩ := hg2
        have hm0 : (0:Int) ≤ (m:Int) := by omega
        have hmi : (m:Int) < (s.size:Int) := by omega
        have hst : isum (fun a => L.getD a 0 * L.getD a 0) (m + 1) = isum (fun a => L.getD a 0 * L.getD a 0) m + L.getD m 0 * L.getD m 0 := rfl
        have hbd := isq_le HP.out.small m
        have hsq := sq_le (HP.out.small m)
        rw [HSm.out] at hst hbd
        obtain ⟨z, hz⟩ : ∃ z, L.getD m 0 = z := ⟨_, rfl⟩
        rw [hz] at hst hcm hsq
        obtain ⟨Z, hZ⟩ : ∃ Z, z * z = Z := ⟨_, rfl⟩
        rw [hZ] at hst hsq
        have hw1 : IntKind.i64.wrap Z = Z := IntWalk.i64_in _ (by omega)
        have hw2 : IntKind.i64.wrap (S + Z) = S + Z := IntWalk.i64_in _ (by omega)
        have HS2 := Lib.hid hst
        clear hst hz hsq hbd hc
        go_wp2_with fail
        go_quiet (fail)
        go_wp2
        go_roundw
        case rel => exact ⟨m + 1, S + Z, by omega, by go_num, rfl, HS2, Lib.hid (bthen HQ.out (drewN_below _ _))⟩
        case measure => simp [intOf]; omega
      · obtain rfl : m = s.size := by omega
        have hS : S = (s.size : Int) * (s.size : Int) := by rw [← HSm.out, HP.out.sq]
        obtain ⟨Q, hQ⟩ : ∃ Q : Nat, s.size * s.size = Q := ⟨_, rfl⟩
        have hQ2 : (s.size : Int) * (s.size : Int) = (Q : Int) := by rw [← hQ]; simp
        have hQb : Q ≤ 4096 := by rw [← hQ]; exact Nat.mul_le_mul h64 h64
        rw [hQ2] at hS
        subst hS
        have HQ2 := Lib.hid hQ2
        clear hQ hQ2 HSm hc
        go_wp2_with fail
        rw [← HEV.out]
        refine (HD.out _).mono ?_
        rintro e w7 ⟨rfl, hb7⟩
        rw [Hown.out, HEV.out]
        have Hb7 := Lib.hid (bthen Hb5.out (bthen HQ.out hb7))
        clear hb7
        go_wp2_with fail
        refine (r8At_any a' len' cap' bs' 0 (s.size : Int) w7 (HX'.out.below Hb7.out)).mono ?_
        rintro e w8 ⟨bb, rfl, hbb0, hbb1, rfl⟩
        obtain ⟨bn, rfl⟩ := Int.eq_ofNat_of_zero_le hbb0
        have hbn : bn < s.size := by omega
        go_wp2_with fail
        refine (r8At_any a' len' cap' bs' 1 2 w7 (HX'.out.below Hb7.out)).mono ?_
        rintro e w8 ⟨ee, rfl, hee0, hee1, rfl⟩
        obtain ⟨ef, hef⟩ : ∃ ef : Bool, ee = if ef then 1 else 0 := by
          by_cases h : ee = 1
          · exact ⟨true, h⟩
          · exact ⟨false, by simp; omega⟩
        have HC := HO.out bn ef hbn
        rw [← hef] at HC
        have HC2 := Lib.hid HC
        clear hef HC hee0 hee1
        go_wp2_with fail
        refine (HC2.out _).mono ?_
        rintro e w9 ⟨rfl, hb9⟩
        have hoth := HP.out.other bn ef hbn
        have Hb9 := Lib.hid (bthen Hb7.out hb9)
        obtain ⟨X, hX⟩ : ∃ X : Nat, dfF (bitF s) bn ef s.size = X := ⟨_, rfl⟩
        rw [hX] at hoth ⊢
        have hQ2 := HQ2.out
        clear hb9 hX hbb1
        go_wp2
        go_ret
        exact ⟨rfl, Hb9.out⟩
end Go.Proofs.YtflgooogiceliaaDoor

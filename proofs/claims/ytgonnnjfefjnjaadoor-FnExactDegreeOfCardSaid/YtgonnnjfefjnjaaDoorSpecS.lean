import Derived.Test.YtgonnnjfefjnjaaDoorSpecW
/- The spectrum of a table: the reference's walk, and the law FnExactSpectrumOf. Condition: the text is shorter than the model's greatest length. -/
namespace Go.Proofs.YtgonnnjfefjnjaaDoor
open Go.RowKit
set_option linter.unusedVariables false

theorem l02ParityT_any (m : Nat) (w : World) (hm : m < 64) : Calls Tryd.prog 77 #[.int .i64 (m : Nat)] w fun e w' => e = .returned (.int .i64 (if par6 m then 1 else 0)) ∧ w' = w := by
  obtain ⟨P, hP⟩ : ∃ P, par6 m = P := ⟨_, rfl⟩
  rw [hP]
  have HP := Lib.hid hP
  obtain ⟨C, hC⟩ : ∃ C : Int, (if P then 1 else 0 : Int) = C := ⟨_, rfl⟩
  rw [hC]
  have HC := Lib.hid hC
  clear hP hC
  go_enter Tryd.func77, Tryd.ntmps77
  go_wp2
  go_loopw [0, 3] (fun n p wr => ∃ (v b : Nat), v < 64 ∧ b < 2 ∧ n = .int .i64 (v : Nat) ∧ p = .int .i64 (b : Nat) ∧ wr = w ∧ Hid (xor (b == 1) (par6 v) = P)) (fun n _ _ => (intOf n).toNat)
  case atStart => exact ⟨m, 0, hm, by omega, rfl, rfl, rfl, Lib.hid (by rw [HP.out]; cases P <;> rfl)⟩
  case round =>
    clear HP
    obtain ⟨v, b, hv, hb, rfl, rfl, rfl, HX⟩ := hrel
    by_cases h0 : 0 < v
    · have h0i : (0:Int) < (v:Int) := by omega
      obtain ⟨r, hr⟩ : ∃ r, v % 2 = r := ⟨_, rfl⟩
      have hand : bits .and .i64 (v : Int) 1 = ((r : Nat) : Int) := by
        rw [← hr]
        have := and_i64 v 1 (by omega) (by omega)
        rw [show v &&& 1 = v % 2 from Nat.and_one_is_mod v] at this
        exact this
      obtain ⟨b', hb'⟩ : ∃ b', b ^^^ r = b' := ⟨_, rfl⟩
      have hb2 : b' < 2 ∧ (b' == 1) = xor (b == 1) (r == 1) := by
        subst hb'
        have : ∀ b, b < 2 → ∀ r, r < 2 → b ^^^ r < 2 ∧ (b ^^^ r == 1) = xor (b == 1) (r == 1) := by decide
        exact this b hb r (by omega)
      have hxor : bits .xor .i64 (b : Int) (r : Int) = ((b' : Nat) : Int) := by rw [xor_i64 b r (by omega) (by omega), hb']
      obtain ⟨d, hd⟩ : ∃ d, v / 2 = d := ⟨_, rfl⟩
      have hdi : (v : Int) / 2 = ((d : Nat) : Int) := by omega
      have HX2 := Lib.hid (show xor (b' == 1) (par6 d) = P by
        have h1 := HX.out
        rw [par6_step v hv, hr, hd] at h1
        rw [hb2.2, ← h1]
        cases (b == 1) <;> cases (r == 1) <;> cases par6 d <;> rfl)
      have hd64 : d < 64 := by omega
      have hdv : d < v := by omega
      have hb2' := hb2.1
      clear hr hb' hb2 hd
      go_wp2
      go_roundw
      case rel => exact ⟨d, b', hd64, hb2', by go_num, rfl, trivial, HX2⟩
      case measure => simp [intOf]; omega
    · obtain rfl : v = 0 := by omega
      have HY := Lib.hid (show (b : Int) = C by
        rw [← HC.out]
        have h1 := HX.out
        have : par6 0 = false := by decide
        rw [this] at h1
        obtain rfl | rfl : b = 0 ∨ b = 1 := by omega
        · rw [← h1]; rfl
        · rw [← h1]; rfl)
      go_wp2
      go_ret
      exact ⟨by rw [← HY.out]; rfl, rfl⟩
theorem parity_one (m : Nat) (hm : m < 64) (h : par6 m = true) (w : World) : Calls Tryd.prog 77 #[.int .i64 (m : Nat)] w fun e w' => e = .returned (.int .i64 1) ∧ w' = w := by
  have := l02ParityT_any m w hm
  rw [h] at this
  exact this
theorem parity_zero (m : Nat) (hm : m < 64) (h : par6 m = false) (w : World) : Calls Tryd.prog 77 #[.int .i64 (m : Nat)] w fun e w' => e = .returned (.int .i64 0) ∧ w' = w := by
  have := l02ParityT_any m w hm
  rw [h] at this
  exact this
theorem spS'_at {s : ByteArray} {a : Nat} (h : a < s.size) : (spS' s).getD a 0 = csum (spS a) (sgF s) s.size := by
  rw [getD_eq _ _ (by rw [spS'_len]; exact h)]
  simp [spS']
theorem spS_1 (a x : Nat) : -1 ≤ spS a x ∧ spS a x ≤ 1 := by
  rcases spS_le a x with h | h <;> rw [h] <;> decide
theorem spS'_bound (s : ByteArray) (a : Nat) (hsz : s.size ≤ 64) : -64 ≤ (spS' s).getD a 0 ∧ (spS' s).getD a 0 ≤ 64 := by
  by_cases h : a < s.size
  · rw [spS'_at h]
    have := csum_le (c := spS a) (f := sgF s) (fun x => spS_1 a x) (sgF_or s) s.size
    omega
  · simp [List.getD, List.getElem?_eq_none (show (spS' s).length ≤ a by rw [spS'_len]; omega)]
set_option maxRecDepth 20000 in
set_option maxHeartbeats 3200000 in
theorem l04Spectrum_any (s : ByteArray) (k : Nat) (w : World) (hk : k < 7) (hs : s.size = 2 ^ k) (hb : isB s = true) :
    Calls Tryd.prog 50 #[.string s] w (RetInts w (spS' s)) := by
  have hsz : s.size ≤ 64 := by have := pow_le_64 k hk; omega
  have hat : ∀ a, a < s.size → (spS' s).getD a 0 = csum (spS a) (sgF s) s.size := fun a ha => spS'_at ha
  have hbit : ∀ x, x < s.size → ((by8 s x).toNat : Int) = 48 + (if bitF s x then 1 else 0) := fun x hx => isB_byte hb hx
  have hxr : ∀ x a, x < s.size → a < s.size → x &&& a < s.size := fun x a h1 h2 => by rw [hs] at *; exact Nat.and_lt_two_pow _ h2
  have hln := spS'_len s
  have hg1 := sgF_or s
  have hge : ∀ x, sgF s x = sgV (bitF s x) := fun x => rfl
  obtain ⟨f, hf⟩ : ∃ f, bitF s = f := ⟨_, rfl⟩
  obtain ⟨g, hg⟩ : ∃ g, sgF s = g := ⟨_, rfl⟩
  obtain ⟨L, hL⟩ : ∃ L, spS' s = L := ⟨_, rfl⟩
  rw [hf] at hbit hge
  rw [hg] at hat hg1 hge
  rw [hL] at hat hln ⊢
  have HAT := Lib.hid (And.intro hat (And.intro hln (And.intro hbit (And.intro hxr (And.intro hg1 hge)))))
  clear hat hln hbit hf hL hs hb hxr hg1 hge hg
  go_enter Tryd.func50, Tryd.ntmps50
  go_wp2
  go_loopw [4, 3] (fun u v wr => ∃ (m : Nat) (xs : List Int), m ≤ s.size ∧ u = .int .i64 (m : Nat) ∧ Hid (xs = L.take m) ∧ GrowAt w wr 2 v m (xs.map (Value.int .i64))) (fun u _ _ => s.size - (intOf u).toNat)
  case atStart => exact ⟨0, [], Nat.zero_le _, rfl, Lib.hid rfl, GrowAt.start w 2⟩
  case round =>
    obtain ⟨u, xs, hu, rfl, HXS, hG⟩ := hrel
    obtain ⟨wo, rfl⟩ : ∃ wo : World, wo = wr := ⟨_, rfl⟩
    have HG := Lib.hid hG
    clear hG
    by_cases hlt : u < s.size
    · have hu0 : (0:Int) ≤ (u:Int) := by omega
      have hui : (u:Int) < (s.size:Int) := by omega
      go_wp2
      go_loopw [6, 5] (fun x sm wr => ∃ (m : Nat) (z : Int), m ≤ s.size ∧ x = .int .i64 (m : Nat) ∧ sm = .int .i64 z ∧ -64 ≤ z ∧ z ≤ 64 ∧ Hid (z = csum (spS u) g m) ∧ Hid (GrowAt w wr 2 u3 u (xs.map (Value.int .i64)))) (fun x _ _ => s.size - (intOf x).toNat)
      case atStart => exact ⟨0, 0, Nat.zero_le _, rfl, rfl, by omega, by omega, Lib.hid rfl, HG⟩
      case round =>
        obtain ⟨m, z, hm, rfl, rfl, hz1, hz2, HZ, HG1⟩ := hrel
        by_cases hmu : m < s.size
        · have hm0 : (0:Int) ≤ (m:Int) := by omega
          have hmi : (m:Int) < (s.size:Int) := by omega
          have hq1 := HAT.out.2.2.2.1 u m hlt hmu
          obtain ⟨q, hq⟩ : ∃ q, u &&& m = q := ⟨_, rfl⟩
          have hand : bits .and .i64 (u : Int) (m : Int) = ((q : Nat) : Int) := by rw [and_i64 u m (by omega) (by omega), hq]
          have hq64 : q < 64 := by rw [← hq]; omega
          have hbz := csum_le (c := spS u) (f := g) (fun x => spS_1 u x) HAT.out.2.2.2.2.1 (m + 1)
          have hstep : csum (spS u) g (m + 1) = z + spS u m * g m := by rw [HZ.out]; rfl
          rw [HAT.out.2.2.2.2.2 m, show spS u m = if par6 q then -1 else 1 by unfold spS; rw [hq]] at hstep
          have hgx := get_by8 s m hmu
          have hb1 := HAT.out.2.2.1 m hmu
          obtain ⟨I, hI⟩ : ∃ I, csum (spS u) g (m + 1) = I := ⟨_, rfl⟩
          have HI := Lib.hid hI
          rw [hI] at hstep hbz
          rw [hstep] at hbz
          have hrfl : ∀ b : Bool, (48 + (if b then 1 else 0) : Int) = if b then 49 else 48 := by decide
          rw [hrfl, ← hgx] at hb1
          have HQ := Lib.hid (fun h w => parity_one q hq64 h w)
          have HQ0 := Lib.hid (fun h w => parity_zero q hq64 h w)
          clear hgx hq hrfl hI
          cases hf1 : f m <;> cases hp : par6 q
          all_goals
            rw [hf1, hp] at hbz hstep
            rw [hf1] at hb1
            simp only [sgV, Bool.false_eq_true, if_false, if_true] at hb1 hbz hstep
            have HS := Lib.hid hstep
            have HP := Lib.hid hp
            clear hf1 hp hstep
            go_wp2_with fail
            go_quiet ((go_at_call 77; first | exact Calls.quiet_of_same (HQ.out HP.out _) | exact Calls.quiet_of_same (HQ0.out HP.out _)))
            go_wp2
            go_roundw
            case rel => exact ⟨m + 1, _, by omega, by go_num, rfl, by omega, by omega, Lib.hid (by rw [HI.out, HS.out]; rfl), Lib.hid (HG1.out.drewN _)⟩
            case measure => simp [intOf]; omega
        · obtain rfl : m = s.size := by omega
          have HV := Lib.hid (show L.getD u 0 = z by rw [HAT.out.1 u hlt, HZ.out])
          have HG2 := Lib.hid (HG1.out.alloc (.cells #[.int .i64 z] 2))
          go_wp2_with (at_builtin; refine wpList_ap1 rfl (.tmp 34) (.tmp 36) 27 rfl w.heap.size 2 (.int .i64 0) 8 Tryd.underlying27 Tryd.infoI rfl _ u _ rfl HG2.out.1 wr.heap.size (.int .i64 z) rfl (by go_simp) rfl (by omega) (by omega) HG2.out.2.size ?_)
          intro v' w6 hown hgrow _
          have HG3 := Lib.hid (own_i64 HG2.out hown hgrow)
          clear hown hgrow
          go_wp2
          go_roundw
          case rel => exact ⟨u + 1, xs ++ [z], by omega, by go_num, Lib.hid (by rw [take_snoc L u (by rw [HAT.out.2.1]; exact hlt), HXS.out, HV.out]), HG3.out⟩
          case measure => simp [intOf]; omega
    · obtain rfl : u = s.size := by omega
      have hG := HG.out
      rw [HXS.out, List.take_of_length_le (by rw [HAT.out.2.1]; exact Nat.le_refl _)] at hG
      have HR := Lib.hid (RetInts.of_grow hG)
      clear hG
      go_wp2
      go_ret
      exact HR.out
set_option maxHeartbeats 800000 in
theorem spectrumOf_any (s : ByteArray) (w : World) (hs : s.size ≤ maxLen) : Calls Tryd.prog 25 #[.string s] w (RetSl w (isT s) (tabL s (spS' s))) := by
  cases ht : isT s with
  | false =>
    rw [show tabL s (spS' s) = [] by unfold tabL; rw [ht]; rfl]
    have HT := Lib.hid ht
    clear ht
    go_enter Tryd.func25, Tryd.ntmps25
    go_wp2_with fail
    refine (isTable_any s _ hs).mono ?_
    rintro e w1 ⟨rfl, hb1⟩
    rw [HT.out]
    go_wp2_with fail
    go_ret2
    exact retSl_no hb1
  | true =>
    rw [show tabL s (spS' s) = spS' s by unfold tabL; rw [ht]; rfl]
    obtain ⟨k, hi, hk, hsz, hB⟩ := isT_iff ht
    have HT := Lib.hid (And.intro ht (And.intro hsz hB))
    clear ht hi hsz hB
    go_enter Tryd.func25, Tryd.ntmps25
    go_wp2_with fail
    refine (isTable_any s _ hs).mono ?_
    rintro e w1 ⟨rfl, hb1⟩
    rw [HT.out.1]
    have Hb1 := Lib.hid hb1
    clear hb1
    go_wp2_with fail
    refine (spectrum_any s k _ hk HT.out.2.1 HT.out.2.2).mono ?_
    rintro e w2 ⟨a, c, rfl, hown, hb2⟩
    have H := Lib.hid (And.intro (Lists.one (own_mono hown Hb1.out.size)) (bthen Hb1.out hb2))
    clear hown hb2
    go_wp2_with fail
    go_ret2
    exact ⟨a, c, rfl, H.out.1, H.out.2⟩
set_option maxHeartbeats 800000 in
theorem specSpectrumOf_any (s : ByteArray) (w : World) (hs : s.size ≤ maxLen) : Calls Tryd.prog 24 #[.string s] w (RetSl w (isT s) (tabL s (spS' s))) := by
  cases ht : isT s with
  | false =>
    rw [show tabL s (spS' s) = [] by unfold tabL; rw [ht]; rfl]
    have HT := Lib.hid ht
    clear ht
    go_enter Tryd.func24, Tryd.ntmps24
    go_wp2_with fail
    refine (l04Table_any s _ hs).mono ?_
    rintro e w1 ⟨rfl, rfl⟩
    rw [HT.out]
    go_wp2_with fail
    go_ret2
    exact retSl_no (Below.refl _ _)
  | true =>
    rw [show tabL s (spS' s) = spS' s by unfold tabL; rw [ht]; rfl]
    obtain ⟨k, hi, hk, hsz, hB⟩ := isT_iff ht
    have HT := Lib.hid (And.intro ht (And.intro hsz hB))
    clear ht hi hsz hB
    go_enter Tryd.func24, Tryd.ntmps24
    go_wp2_with fail
    refine (l04Table_any s _ hs).mono ?_
    rintro e w1 ⟨rfl, rfl⟩
    rw [HT.out.1]
    go_wp2_with fail
    refine (l04Spectrum_any s k _ hk HT.out.2.1 HT.out.2.2).mono ?_
    rintro e w2 ⟨a, c, rfl, hown, hb2⟩
    have H := Lib.hid (And.intro (Lists.one hown) hb2)
    clear hown hb2
    go_wp2_with fail
    go_ret2
    exact ⟨a, c, rfl, H.out.1, H.out.2⟩
set_option maxHeartbeats 1600000 in
theorem fnExactSpectrumOf_walk (s : ByteArray) (w : World) (hs : s.size ≤ maxLen) :
    Calls Tryd.prog 6 #[.string s] w fun e w' => e = .returned (.bool true) ∧ Below w.heap.size w w' := by
  by_cases hbig : 1048576 < s.size
  · have : (1048576 : Int) < (s.size : Int) := by omega
    go_enter Tryd.func6, Tryd.ntmps6
    go_wp2
    go_ret
    exact ⟨rfl, Below.refl _ _⟩
  · have hn0 : (tabL s (spS' s)).length ≤ 1048576 := tabL_small (by rw [spS'_len]; exact Nat.le_refl _) (by omega)
    have HI := Lib.hid (fun w => spectrumOf_any s w hs)
    have HS := Lib.hid (fun w => specSpectrumOf_any s w hs)
    obtain ⟨d, hd⟩ : ∃ d, isT s = d := ⟨_, rfl⟩
    obtain ⟨L, hL⟩ : ∃ L, tabL s (spS' s) = L := ⟨_, rfl⟩
    rw [hL] at hn0 HI HS
    rw [hd] at HI HS
    obtain ⟨n, hn⟩ : ∃ n, L.length = n := ⟨_, rfl⟩
    rw [hn] at hn0
    have HN := Lib.hid hn
    have h0 : ¬ (1048576 : Int) < (s.size : Int) := by omega
    have HA := Lib.hid (At.start w)
    clear hd hL hn hbig
    go_enter Tryd.func6, Tryd.ntmps6
    go_wp2_with fail
    refine (HS.out _).mono ?_
    rintro e w1 ⟨a1, c1, rfl, hl, hb⟩
    rw [HN.out] at hl ⊢
    have H1 := Lib.hid (HA.out.join hb hl)
    clear hl hb
    go_wp2_with fail
    refine (HI.out _).mono ?_
    rintro e w2 ⟨a2, c2, rfl, hl, hb⟩
    rw [HN.out] at hl ⊢
    have H2 := Lib.hid (H1.out.join hb hl)
    clear hl hb
    -- g0 w0
    go_wp2_with fail
    refine (eq_at 0 1 L _ _ _ _ _ _ _ _ _ H2.out (by omega) rfl rfl).mono ?_
    rintro e w3 ⟨rfl, h3⟩
    have H3 := Lib.hid h3
    clear h3
    go_wp2_with fail
    refine (mark_at 0 L _ _ _ _ _ _ _ H3.out (by omega) (by omega) (by omega) rfl).mono ?_
    rintro e w4 ⟨rfl, h4⟩
    have H4 := Lib.hid h4
    clear h4
    go_wp2_with fail
    refine (held_at 0 _ _ _ _ _ _ _ H4.out (by omega) (by omega) (by omega) rfl).mono ?_
    rintro e w5 ⟨rfl, h5⟩
    have H5 := Lib.hid h5
    clear h5
    go_wp2_with fail
    refine (HI.out _).mono ?_
    rintro e w6 ⟨a6, c6, rfl, hl, hb⟩
    rw [HN.out] at hl ⊢
    have H6 := Lib.hid (H5.out.join hb hl)
    clear hl hb
    -- h0 g0 w0
    go_wp2_with fail
    refine (eq_at 0 2 L _ _ _ _ _ _ _ _ _ H6.out (by omega) rfl rfl).mono ?_
    rintro e w7 ⟨rfl, h7⟩
    have H7 := Lib.hid h7
    clear h7
    go_wp2_with fail
    refine (held_at 1 _ _ _ _ _ _ _ H7.out (by omega) (by omega) (by omega) rfl).mono ?_
    rintro e w8 ⟨rfl, h8⟩
    have H8 := Lib.hid h8
    clear h8
    go_wp2_with fail
    go_ret
    exact ⟨rfl, H8.out.2⟩
end Go.Proofs.YtgonnnjfefjnjaaDoor

import Derived.Test.YtgonnnjfefjnjaaDoorShifts
/- How a table agrees with itself shifted: the reference's walk, and the law FnExactShiftsOf. Condition: the text is shorter than the model's greatest length. -/
namespace Go.Proofs.YtgonnnjfefjnjaaDoor
open Go.RowKit
set_option linter.unusedVariables false

set_option maxRecDepth 20000 in
set_option maxHeartbeats 3200000 in
theorem l04Shifts_any (s : ByteArray) (k : Nat) (w : World) (hk : k < 7) (hs : s.size = 2 ^ k) (hb : isB s = true) :
    Calls Tryd.prog 52 #[.string s] w (RetInts w (shL s)) := by
  have hsz : s.size ≤ 64 := by have := pow_le_64 k hk; omega
  have hat : ∀ a, a < s.size → (shL s).getD a 0 = isum (fun x => sgV (bitF s x) * sgV (bitF s (x ^^^ a))) s.size := fun a ha => shL_at ha
  have hbit : ∀ x, x < s.size → ((by8 s x).toNat : Int) = 48 + (if bitF s x then 1 else 0) := fun x hx => isB_byte hb hx
  have hxr : ∀ x a, x < s.size → a < s.size → x ^^^ a < s.size := fun x a h1 h2 => by rw [hs] at *; exact Nat.xor_lt_two_pow h1 h2
  have hln := shL_len s
  obtain ⟨f, hf⟩ : ∃ f, bitF s = f := ⟨_, rfl⟩
  obtain ⟨L, hL⟩ : ∃ L, shL s = L := ⟨_, rfl⟩
  rw [hf] at hat hbit
  rw [hL] at hat hln ⊢
  have HAT := Lib.hid (And.intro hat (And.intro hln (And.intro hbit hxr)))
  clear hat hln hbit hf hL hs hb hxr
  go_enter Tryd.func52, Tryd.ntmps52
  go_wp2
  go_loopw [4, 3] (fun u v wr => ∃ (m : Nat) (xs : List Int), m ≤ s.size ∧ u = .int .i64 (m : Nat) ∧ Hid (xs = L.take m) ∧ GrowAt w wr 2 v m (xs.map (Value.int .i64))) (fun u _ _ => s.size - (intOf u).toNat)
  case atStart => exact ⟨0, [], Nat.zero_le _, rfl, Lib.hid rfl, GrowAt.start w 2⟩
  case round =>
    obtain ⟨u, xs, hu, rfl, HXS, hG⟩ := hrel
    obtain ⟨wo, rfl⟩ : ∃ wo : World, wo = wr := ⟨_, rfl⟩
    have HG := Lib.hid hG
    clear hG
    by_cases hlt : u < s.size
    · have hu0 : (0:Int) ≤ (u:Int) := by omega
      have hui : (u:Int) < (s.size:Int) := by omega
      go_wp2
      go_loopw [6, 5] (fun x sm wr => ∃ (m : Nat) (z : Int), m ≤ s.size ∧ x = .int .i64 (m : Nat) ∧ sm = .int .i64 z ∧ -64 ≤ z ∧ z ≤ 64 ∧ Hid (z = isum (fun x => sgV (f x) * sgV (f (x ^^^ u))) m) ∧ Hid (GrowAt w wr 2 u3 u (xs.map (Value.int .i64)))) (fun x _ _ => s.size - (intOf x).toNat)
      case atStart => exact ⟨0, 0, Nat.zero_le _, rfl, rfl, by omega, by omega, Lib.hid rfl, HG⟩
      case round =>
        obtain ⟨m, z, hm, rfl, rfl, hz1, hz2, HZ, HG1⟩ := hrel
        by_cases hmu : m < s.size
        · have hm0 : (0:Int) ≤ (m:Int) := by omega
          have hmi : (m:Int) < (s.size:Int) := by omega
          have hxor := xor_i64 m u (by omega) (by omega)
          have hq1 := HAT.out.2.2.2 m u hmu hlt
          have hbz := isum_le (h := fun x => sgV (f x) * sgV (f (x ^^^ u))) (fun x => sg_mul f x (x ^^^ u)) (m + 1)
          have hstep : isum (fun x => sgV (f x) * sgV (f (x ^^^ u))) (m + 1) = z + sgV (f m) * sgV (f (m ^^^ u)) := by rw [HZ.out]; rfl
          have hgx := get_by8 s m hmu
          have hgq := get_by8 s (m ^^^ u) hq1
          have hb1 := HAT.out.2.2.1 m hmu
          have hb2 := HAT.out.2.2.1 (m ^^^ u) hq1
          obtain ⟨I, hI⟩ : ∃ I, isum (fun x => sgV (f x) * sgV (f (x ^^^ u))) (m + 1) = I := ⟨_, rfl⟩
          have HI := Lib.hid hI
          rw [hI] at hstep hbz
          rw [hstep] at hbz
          have HS := Lib.hid hstep
          obtain ⟨q, hq⟩ : ∃ q, m ^^^ u = q := ⟨_, rfl⟩
          have hfq : f (m ^^^ u) = f q := by rw [hq]
          rw [hfq] at hbz HS hb2
          rw [hq] at hxor hq1 hb2
          have hgq2 : s[q] = by8 s q := get_by8 s q hq1
          have hqi : (q:Int) < (s.size:Int) := by omega
          have hq0 : (0:Int) ≤ (q:Int) := by omega
          have HQ := Lib.hid hq
          have hrfl : ∀ b : Bool, (48 + (if b then 1 else 0) : Int) = if b then 49 else 48 := by decide
          rw [hrfl] at hb1 hb2
          clear hstep hgq hfq hq hrfl hI
          cases hf1 : f m <;> cases hf2 : f q
          all_goals
            rw [hf1, hf2] at hbz HS
            rw [hf1] at hb1
            rw [hf2] at hb2
            simp only [sgV, Bool.false_eq_true, if_false, if_true] at hb1 hb2 hbz HS
            rw [← hgx] at hb1
            rw [← hgq2] at hb2
            clear hgx hgq2 hf1 hf2
            go_wp2_with fail
            go_quiet (fail)
            go_wp2
            go_roundw
            case rel => exact ⟨m + 1, _, by omega, by go_num, rfl, by omega, by omega, Lib.hid (by rw [HI.out, HS.out]; rfl), Lib.hid (HG1.out.drewN _)⟩
            case measure => simp [intOf]; omega
        · obtain rfl : m = s.size := by omega
          have HV := Lib.hid (show L.getD u 0 = z by rw [HAT.out.1 u hlt, HZ.out])
          have HG2 := Lib.hid (HG1.out.alloc (.cells #[.int .i64 z] 2))
          go_wp2_with (at_builtin; refine wpList_ap1 rfl (.tmp 33) (.tmp 35) 27 rfl w.heap.size 2 (.int .i64 0) 8 Tryd.underlying27 Tryd.infoI rfl _ u _ rfl HG2.out.1 wr.heap.size (.int .i64 z) rfl (by go_simp) rfl (by omega) (by omega) HG2.out.2.size ?_)
          intro v' w6 hown hgrow _
          have HG3 := Lib.hid (own_i64 HG2.out hown hgrow)
          clear hown hgrow
          go_wp2
          go_roundw
          case rel => exact ⟨u + 1, xs ++ [z], by omega, by go_num, Lib.hid (by rw [take_snoc L u (by rw [HAT.out.2.1]; exact hlt), HXS.out, HV.out]), HG3.out⟩
          case measure => simp [intOf]; omega
    · obtain rfl : u = s.size := by omega
      have hG := HG.out
      rw [HXS.out, List.take_of_length_le (by rw [HAT.out.2.1]; exact Nat.le_refl _)] at hG
      have HR := Lib.hid (RetInts.of_grow hG)
      clear hG
      go_wp2
      go_ret
      exact HR.out
/-- A call's answer: a slice of its own, and whether there is one. -/
def RetSl (w : World) (ok : Bool) (zs : List Int) (e : Ending) (w' : World) : Prop := ∃ a c, e = .returned (.tuple #[.slice a zs.length c, .bool ok]) ∧ Lists w' w.heap.size [⟨a, zs.length, c, zs⟩] ∧ Below w.heap.size w w'
theorem retSl_no {w w' : World} (hb : Below w.heap.size w w') : RetSl w false [] (.returned (.tuple #[.slice none 0 0, .bool false])) w' :=
  ⟨none, 0, rfl, Lists.one ⟨rfl, Or.inl ⟨rfl, rfl⟩⟩, hb⟩
/-- What a function of tables gives: nothing of other texts. -/
def tabL (s : ByteArray) (L : List Int) : List Int := if isT s then L else []
set_option maxHeartbeats 800000 in
theorem shiftsOf_any (s : ByteArray) (w : World) (hs : s.size ≤ maxLen) : Calls Tryd.prog 20 #[.string s] w (RetSl w (isT s) (tabL s (shL s))) := by
  cases ht : isT s with
  | false =>
    rw [show tabL s (shL s) = [] by unfold tabL; rw [ht]; rfl]
    have HT := Lib.hid ht
    clear ht
    go_enter Tryd.func20, Tryd.ntmps20
    go_wp2_with fail
    refine (isTable_any s _ hs).mono ?_
    rintro e w1 ⟨rfl, hb1⟩
    rw [HT.out]
    go_wp2_with fail
    go_ret2
    exact retSl_no hb1
  | true =>
    rw [show tabL s (shL s) = shL s by unfold tabL; rw [ht]; rfl]
    obtain ⟨k, hi, hk, hsz, hB⟩ := isT_iff ht
    have HT := Lib.hid (And.intro ht (And.intro hsz hB))
    clear ht hi hsz hB
    go_enter Tryd.func20, Tryd.ntmps20
    go_wp2_with fail
    refine (isTable_any s _ hs).mono ?_
    rintro e w1 ⟨rfl, hb1⟩
    rw [HT.out.1]
    have Hb1 := Lib.hid hb1
    clear hb1
    go_wp2_with fail
    refine (shifts_any s k _ hk HT.out.2.1 HT.out.2.2).mono ?_
    rintro e w2 ⟨a, c, rfl, hown, hb2⟩
    have H := Lib.hid (And.intro (Lists.one (own_mono hown Hb1.out.size)) (bthen Hb1.out hb2))
    clear hown hb2
    go_wp2_with fail
    go_ret2
    exact ⟨a, c, rfl, H.out.1, H.out.2⟩
set_option maxHeartbeats 800000 in
theorem specShiftsOf_any (s : ByteArray) (w : World) (hs : s.size ≤ maxLen) : Calls Tryd.prog 19 #[.string s] w (RetSl w (isT s) (tabL s (shL s))) := by
  cases ht : isT s with
  | false =>
    rw [show tabL s (shL s) = [] by unfold tabL; rw [ht]; rfl]
    have HT := Lib.hid ht
    clear ht
    go_enter Tryd.func19, Tryd.ntmps19
    go_wp2_with fail
    refine (l04Table_any s _ hs).mono ?_
    rintro e w1 ⟨rfl, rfl⟩
    rw [HT.out]
    go_wp2_with fail
    go_ret2
    exact retSl_no (Below.refl _ _)
  | true =>
    rw [show tabL s (shL s) = shL s by unfold tabL; rw [ht]; rfl]
    obtain ⟨k, hi, hk, hsz, hB⟩ := isT_iff ht
    have HT := Lib.hid (And.intro ht (And.intro hsz hB))
    clear ht hi hsz hB
    go_enter Tryd.func19, Tryd.ntmps19
    go_wp2_with fail
    refine (l04Table_any s _ hs).mono ?_
    rintro e w1 ⟨rfl, rfl⟩
    rw [HT.out.1]
    go_wp2_with fail
    refine (l04Shifts_any s k _ hk HT.out.2.1 HT.out.2.2).mono ?_
    rintro e w2 ⟨a, c, rfl, hown, hb2⟩
    have H := Lib.hid (And.intro (Lists.one hown) hb2)
    clear hown hb2
    go_wp2_with fail
    go_ret2
    exact ⟨a, c, rfl, H.out.1, H.out.2⟩
theorem tabL_small {s : ByteArray} {L : List Int} (hL : L.length ≤ s.size) (hsz : s.size ≤ 1048576) : (tabL s L).length ≤ 1048576 := by
  unfold tabL
  split
  · omega
  · simp
set_option maxHeartbeats 1600000 in
theorem fnExactShiftsOf_walk (s : ByteArray) (w : World) (hs : s.size ≤ maxLen) :
    Calls Tryd.prog 5 #[.string s] w fun e w' => e = .returned (.bool true) ∧ Below w.heap.size w w' := by
  by_cases hbig : 1048576 < s.size
  · have : (1048576 : Int) < (s.size : Int) := by omega
    go_enter Tryd.func5, Tryd.ntmps5
    go_wp2
    go_ret
    exact ⟨rfl, Below.refl _ _⟩
  · have hn0 : (tabL s (shL s)).length ≤ 1048576 := tabL_small (by rw [shL_len]; exact Nat.le_refl _) (by omega)
    have HI := Lib.hid (fun w => shiftsOf_any s w hs)
    have HS := Lib.hid (fun w => specShiftsOf_any s w hs)
    obtain ⟨d, hd⟩ : ∃ d, isT s = d := ⟨_, rfl⟩
    obtain ⟨L, hL⟩ : ∃ L, tabL s (shL s) = L := ⟨_, rfl⟩
    rw [hL] at hn0 HI HS
    rw [hd] at HI HS
    obtain ⟨n, hn⟩ : ∃ n, L.length = n := ⟨_, rfl⟩
    rw [hn] at hn0
    have HN := Lib.hid hn
    have h0 : ¬ (1048576 : Int) < (s.size : Int) := by omega
    have HA := Lib.hid (At.start w)
    clear hd hL hn hbig
    go_enter Tryd.func5, Tryd.ntmps5
    go_wp2_with fail
    refine (HS.out _).mono ?_
    rintro e w1 ⟨a1, c1, rfl, hl, hb⟩
    rw [HN.out] at hl ⊢
    have H1 := Lib.hid (HA.out.join hb hl)
    clear hl hb
    go_wp2_with fail
    refine (HI.out _).mono ?_
    rintro e w2 ⟨a2, c2, rfl, hl, hb⟩
    rw [HN.out] at hl ⊢
    have H2 := Lib.hid (H1.out.join hb hl)
    clear hl hb
    -- g0 w0
    go_wp2_with fail
    refine (eq_at 0 1 L _ _ _ _ _ _ _ _ _ H2.out (by omega) rfl rfl).mono ?_
    rintro e w3 ⟨rfl, h3⟩
    have H3 := Lib.hid h3
    clear h3
    go_wp2_with fail
    refine (mark_at 0 L _ _ _ _ _ _ _ H3.out (by omega) (by omega) (by omega) rfl).mono ?_
    rintro e w4 ⟨rfl, h4⟩
    have H4 := Lib.hid h4
    clear h4
    go_wp2_with fail
    refine (held_at 0 _ _ _ _ _ _ _ H4.out (by omega) (by omega) (by omega) rfl).mono ?_
    rintro e w5 ⟨rfl, h5⟩
    have H5 := Lib.hid h5
    clear h5
    go_wp2_with fail
    refine (HI.out _).mono ?_
    rintro e w6 ⟨a6, c6, rfl, hl, hb⟩
    rw [HN.out] at hl ⊢
    have H6 := Lib.hid (H5.out.join hb hl)
    clear hl hb
    -- h0 g0 w0
    go_wp2_with fail
    refine (eq_at 0 2 L _ _ _ _ _ _ _ _ _ H6.out (by omega) rfl rfl).mono ?_
    rintro e w7 ⟨rfl, h7⟩
    have H7 := Lib.hid h7
    clear h7
    go_wp2_with fail
    refine (held_at 1 _ _ _ _ _ _ _ H7.out (by omega) (by omega) (by omega) rfl).mono ?_
    rintro e w8 ⟨rfl, h8⟩
    have H8 := Lib.hid h8
    clear h8
    go_wp2_with fail
    go_ret
    exact ⟨rfl, H8.out.2⟩
end Go.Proofs.YtgonnnjfefjnjaaDoor

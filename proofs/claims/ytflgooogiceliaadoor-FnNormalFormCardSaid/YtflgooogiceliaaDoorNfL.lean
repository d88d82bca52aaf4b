import Derived.Test.YtflgooogiceliaaDoorParse
import Derived.Test.YtflgooogiceliaaDoorNormL
/- The law FnNormalForm: the normal form of the normal form, the sum of its products, its degree. Condition: the arguments are few bytes (else the law returns true at once). -/
namespace Go.Proofs.YtflgooogiceliaaDoor
open Go.RowKit
set_option linter.unusedVariables false

theorem txt_isB {N : ByteArray} {g : Nat → Bool} (h : TxtIs N g) (hn : N.size ≤ 400) : isB N = true ∧ ∀ x, x < N.size → bitF N x = g x := by
  have hb : ∀ x, x < N.size → by8 N x = if g x then 49 else 48 := fun x hx => by
    have h1 := h x hx
    rw [get_by8 N x hx] at h1
    apply UInt8.toNat_inj.1
    cases hg : g x <;> rw [hg] at h1 <;> simp at h1 ⊢ <;> omega
  refine ⟨?_, fun x hx => ?_⟩
  · unfold isB
    rw [Bool.and_eq_true]
    refine ⟨decide_eq_true hn, (all01_iff N).2 fun x hx => ?_⟩
    rw [hb x hx]
    cases g x <;> rfl
  · unfold bitF
    rw [hb x hx]
    cases g x <;> rfl
theorem txt_ext {A B : ByteArray} {g : Nat → Bool} (ha : TxtIs A g) (hb : TxtIs B g) (hs : A.size = B.size) : A = B := by
  apply ByteArray.ext
  apply Array.ext
  · exact hs
  · intro i h1 h2
    have e1 := ha i h1
    have e2 := hb i h2
    have e3 : (((A[i]'h1).toNat : Nat) : Int) = (((B[i]'h2).toNat : Nat) : Int) := by rw [e1, e2]
    exact UInt8.toNat_inj.1 (by exact_mod_cast e3)
theorem txt_self {s : ByteArray} (hb : isB s = true) : TxtIs s (bitF s) := fun m hm => by
  rw [get_by8 s m hm]
  exact isB_byte hb hm
theorem TxtIs.congr {A : ByteArray} {g h : Nat → Bool} (ha : TxtIs A g) (e : ∀ x, x < A.size → g x = h x) : TxtIs A h := fun m hm => by rw [ha m hm, e m hm]
/-- The facts on a table that the law asks: N its normal form. -/
structure NfLF (s N : ByteArray) (g : Nat → Bool) (k : Nat) : Prop where
  size : N.size = s.size
  txt : TxtIs N g
  isT : isT N = true
  back : nfOf N = s
  val : ∀ x, x < s.size → xsum (fun u => u &&& x == u) g s.size = bitF s x
theorem nfLF {s : ByteArray} {k : Nat} (hk : k < 7) (hs : s.size = 2 ^ k) (hb : isB s = true) : NfLF s (nfOf s) (nfB (bitF s)) k := by
  have h64 := pow_le_64 k hk
  have hi := (isT_size hk hs hb).2
  have hN := nfOf_yes hi
  obtain ⟨h1, h2⟩ := nfT_txt hk hs
  rw [← hN] at h1 h2
  obtain ⟨h3, h4⟩ := txt_isB h2 (by rw [h1]; omega)
  have hNs : (nfOf s).size = 2 ^ k := by rw [h1, hs]
  obtain ⟨h5, h6⟩ := isT_size hk hNs h3
  obtain ⟨h7, h8⟩ := nfT_txt hk hNs
  rw [← nfOf_yes h6] at h7 h8
  have hf : ∀ x, x < 2 ^ k → bitF (nfOf s) x = nfB (bitF s) x := fun x hx => h4 x (by rw [hNs]; exact hx)
  refine ⟨h1, h2, h5, ?_, fun x hx => ?_⟩
  · refine txt_ext (h8.congr fun x hx => ?_) (txt_self hb) (by rw [h7, h1])
    exact nfB_twice (bitF s) _ hk (by rw [h7, hNs] at hx; exact hx) hf
  · rw [hs]
    exact nf_value (bitF s) _ hk (by rw [← hs]; exact hx) fun u hu => rfl
theorem dgF_le (g : Nat → Bool) : ∀ m, m ≤ 64 → dgF g m ≤ 6
  | 0, _ => by simp [dgF]
  | m + 1, h => by
    have h1 := dgF_le g m (by omega)
    have h2 := (pop6_step m (by omega)).2
    rw [dgF]; split <;> omega
set_option maxRecDepth 100000 in
set_option maxHeartbeats 6400000 in
theorem fnNormalForm_walk (a a' : Option Addr) (len cap len' cap' : Nat) (bs bs' : List Int) (w : World) (hx : IsU8s w a len bs) (hx' : IsU8s w a' len' bs') :
    Calls Tryd.prog 8 #[.slice a len cap, .slice a' len' cap'] w fun e w' => e = .returned (.bool true) ∧ Below w.heap.size w w' := by
  cases hlong : (decide (48 < len) || decide (48 < len')) with
  | true =>
    go_enter Tryd.func8, Tryd.ntmps8
    go_wp2_with fail
    refine (r8Long_any _ _ _ _ _ _ _).mono ?_
    rintro e w' ⟨rfl, rfl⟩
    rw [hlong]
    go_wp2_with fail
    go_ret
    exact ⟨rfl, Below.refl _ _⟩
  | false =>
    have hlens : len ≤ 48 ∧ len' ≤ 48 := by simpa using hlong
    have HX := Lib.hid hx
    have HX' := Lib.hid hx'
    clear hx hx'
    go_enter Tryd.func8, Tryd.ntmps8
    go_wp2_with fail
    refine (r8Long_any _ _ _ _ _ _ _).mono ?_
    rintro e w' ⟨rfl, rfl⟩
    rw [hlong]
    clear hlong
    go_wp2_with fail
    refine (r8Table_any _ _ _ bs w HX.out (by omega)).mono ?_
    rintro e w1 ⟨s, k, rfl, HT⟩
    obtain ⟨hk4, hsz, hB, hbw1⟩ := HT.out
    obtain ⟨hT, hI⟩ := isT_size (by omega) hsz hB
    have hP := nfLF (by omega) hsz hB
    have h16 : ∀ k, k ≤ 4 → 2 ^ k ≤ 16 := by decide
    have h64 : s.size ≤ 16 := by rw [hsz]; exact h16 k hk4
    have hn1 : 1 ≤ s.size := by rw [hsz]; exact Nat.one_le_two_pow
    have hml : s.size ≤ maxLen := by unfold maxLen; omega
    have hpw0 := pow_wrap k (by omega)
    have hcast : ((2 ^ k : Nat) : Int) = (2 : Int) ^ k := by simp
    rw [← hcast, ← hsz] at hpw0
    have hpw : wrap64 ((2 : Int) ^ k) = (s.size : Int) := by rw [← hcast, ← hsz, hpw0]
    have HNf := Lib.hid (fun w => implNormalForm_any s w hml)
    have HIn := Lib.hid (fun w => inputsOf_any s w hml)
    have HDg := Lib.hid (fun w => degreeOf_any s w hml)
    have HVa := Lib.hid (fun (x : Int) w => valueAt_any s x w hml)
    have hiv : inpV s = (k : Int) := by unfold inpV; rw [hT, inpI_some hI]; rfl
    have hdg : dgV s = ((dgF (nfB (bitF s)) s.size : Nat) : Int) := rfl
    unfold RetI at HIn
    unfold RetN at HNf
    unfold RetV at HVa
    rw [hT] at HNf
    rw [hT, hiv] at HIn
    rw [hT, tabV_yes hT, hdg] at HDg
    have hvo : ∀ x : Nat, x < s.size → valOk s (x : Int) = true ∧ bitOf s x = if bitF s x then 1 else 0 := fun x hx => by
      refine ⟨by unfold valOk inR; rw [hT, decide_eq_true (by omega), decide_eq_true (by omega)]; rfl, ?_⟩
      unfold bitOf bitF
      by_cases e : by8 s x = 49 <;> simp [e]
    have HVO := Lib.hid hvo
    obtain ⟨N, hN⟩ : ∃ N, nfOf s = N := ⟨_, rfl⟩
    obtain ⟨g, hg⟩ : ∃ g, nfB (bitF s) = g := ⟨_, rfl⟩
    rw [hN] at HNf hP
    rw [hg] at HDg hP
    have HNb := Lib.hid (fun w => implNormalForm_any N w (by rw [hP.size]; exact hml))
    unfold RetN at HNb
    rw [hP.isT, hP.back] at HNb
    have hNsz := hP.size
    have HP := Lib.hid hP
    have Hb1 := Lib.hid hbw1
    have hd0 := dgF_le g s.size (by omega)
    obtain ⟨dg, hdgv⟩ : ∃ dg, dgF g s.size = dg := ⟨_, rfl⟩
    rw [hdgv] at HDg hd0
    have HDG := Lib.hid hdgv
    have HSZ := Lib.hid hNsz
    clear hB hT hI hN hg hP hbw1 hsz HT hiv h16 hdg hvo hpw0 hcast hdgv hNsz
    go_wp2_with fail
    refine (HNf.out _).mono ?_
    rintro e w2 ⟨rfl, hb2⟩
    have Hb2 := Lib.hid (bthen Hb1.out hb2)
    clear hb2 Hb1
    go_wp2_with fail
    refine (HNb.out _).mono ?_
    rintro e w3 ⟨rfl, hb3⟩
    have Hb3 := Lib.hid (bthen Hb2.out hb3)
    clear hb3 Hb2
    go_wp2_with fail
    refine (HDg.out _).mono ?_
    rintro e w4 ⟨rfl, hb4⟩
    have Hb4 := Lib.hid (bthen Hb3.out hb4)
    clear hb4 Hb3
    go_wp2_with fail
    refine (HIn.out _).mono ?_
    rintro e w5 ⟨rfl, hb5⟩
    have Hb5 := Lib.hid (bthen Hb4.out hb5)
    clear hb5 Hb4 HIn HDg HNf HNb
    have hk0 : (0:Int) ≤ (k:Int) := by omega
    have hk4 : (k:Int) ≤ 4 := by omega
    have hNsz := HSZ.out
    go_wp2_with fail
    refine (r8At_any a' len' cap' bs' 0 (s.size : Int) _ (HX'.out.below Hb5.out)).mono ?_
    rintro e w6 ⟨x, rfl, hx0, hx1, rfl⟩
    obtain ⟨x, rfl⟩ := Int.eq_ofNat_of_zero_le hx0
    have hxs : x < s.size := by omega
    clear hx0 hx1
    obtain ⟨wq, hwq⟩ : ∃ wq : World, wq = w5 := ⟨_, rfl⟩
    rw [← hwq] at Hb5 ⊢
    clear hwq
    go_wp2
    go_loopw [17, 14, 16] (fun u t v wr => ∃ (m p : Nat) (S : Bool), m ≤ s.size ∧ p ≤ 6 ∧ u = .int .i64 (m : Nat) ∧ t = .int .i64 (p : Nat) ∧ v = .int .i64 (if S then 1 else 0) ∧ Hid (dgF g m = p) ∧ Hid (xsum (fun u => u &&& x == u) g m = S) ∧ wr = wq) (fun u _ _ _ => s.size - (intOf u).toNat)
    case atStart => exact ⟨0, 0, false, Nat.zero_le _, by omega, rfl, rfl, rfl, Lib.hid rfl, Lib.hid rfl, rfl⟩
    case round =>
      obtain ⟨m, p, S, hm, hp, rfl, rfl, rfl, HG, HS, rfl⟩ := hrel
      by_cases hlt : m < s.size
      · have hm0 : (0:Int) ≤ (m:Int) := by omega
        have hmi : (m:Int) < (s.size:Int) := by omega
        have hmN : m < N.size := by rw [hNsz]; exact hlt
        have hbx := HP.out.txt m hmN
        obtain ⟨cb, hcb⟩ : ∃ cb : Int, ((N[m]'hmN).toNat : Int) = cb := ⟨_, rfl⟩
        rw [hcb] at hbx
        have hd : dgF g (m + 1) = if g m then max (dgF g m) (pop6 m) else dgF g m := rfl
        have hs : xsum (fun u => u &&& x == u) g (m + 1) = xor (xsum (fun u => u &&& x == u) g m) ((m &&& x == m) && g m) := rfl
        rw [HG.out] at hd
        rw [HS.out] at hs
        have hand : bits .and .i64 (m : Int) (x : Int) = ((m &&& x : Nat) : Int) := and_i64 m x (by omega) (by omega)
        have HW := Lib.hid (fun w => r8Weight_any m w (by omega))
        have hq6 := (pop6_step m (by omega)).2
        obtain ⟨u, hu⟩ : ∃ u, m &&& x = u := ⟨_, rfl⟩
        obtain ⟨b, hb⟩ : ∃ b, g m = b := ⟨_, rfl⟩
        obtain ⟨q, hq⟩ : ∃ q, pop6 m = q := ⟨_, rfl⟩
        rw [hu] at hand hs
        rw [hb] at hbx hd hs
        rw [hq] at hd HW hq6
        clear hu hb hq
        cases b
        · simp only [Bool.false_eq_true, if_false, Int.add_zero] at hbx
          subst hbx
          have HD2 := Lib.hid (show dgF g (m + 1) = p by rw [hd]; rfl)
          have HS2 := Lib.hid (show xsum (fun u => u &&& x == u) g (m + 1) = S by rw [hs]; simp)
          clear hd hs
          go_wp2
          go_roundw
          case rel => exact ⟨m + 1, p, S, by omega, hp, by go_num, rfl, rfl, HD2, HS2, trivial⟩
          case measure => simp [intOf]; omega
        · simp only [if_true] at hbx
          subst hbx
          have hx1 : bits .xor .i64 1 1 = 0 := by decide
          have hx0 : bits .xor .i64 0 1 = 1 := by decide
          simp only [if_true] at hd
          rw [Bool.and_true] at hs
          have HD := Lib.hid hd
          have HS0 := Lib.hid hs
          clear hd hs
          by_cases hpq : p < q
          · have hpqi : (p : Int) < (q : Int) := by omega
            have HD2 := Lib.hid (show dgF g (m + 1) = q by rw [HD.out]; omega)
            by_cases hum : u = m
            · have HS2 := Lib.hid (show xsum (fun u => u &&& x == u) g (m + 1) = !S by rw [HS0.out, hum]; simp)
              subst hum
              clear hpq
              cases S
              all_goals
                go_wp2_with (first | (go_at_call 36; refine (HW.out _).mono ?_; rintro e w' ⟨rfl, rfl⟩))
                go_roundw
                case rel => exact ⟨u + 1, q, _, by omega, hq6, by go_num, rfl, by first | rfl | go_num, HD2, HS2, trivial⟩
                case measure => simp [intOf]; omega
            · have hum2 : (u == m) = false := by rw [beq_eq_false_iff_ne]; exact hum
              have hum3 : ((u : Int) == (m : Int)) = false := by rw [beq_eq_false_iff_ne]; omega
              have HS2 := Lib.hid (show xsum (fun u => u &&& x == u) g (m + 1) = S by rw [HS0.out, hum2]; simp)
              clear hpq hum
              go_wp2_with (first | (go_at_call 36; refine (HW.out _).mono ?_; rintro e w' ⟨rfl, rfl⟩))
              go_roundw
              case rel => exact ⟨m + 1, q, S, by omega, hq6, by go_num, rfl, rfl, HD2, HS2, trivial⟩
              case measure => simp [intOf]; omega
          · have hpqi : ¬ (p : Int) < (q : Int) := by omega
            have HD2 := Lib.hid (show dgF g (m + 1) = p by rw [HD.out]; omega)
            by_cases hum : u = m
            · have HS2 := Lib.hid (show xsum (fun u => u &&& x == u) g (m + 1) = !S by rw [HS0.out, hum]; simp)
              subst hum
              clear hpq
              cases S
              all_goals
                go_wp2_with (first | (go_at_call 36; refine (HW.out _).mono ?_; rintro e w' ⟨rfl, rfl⟩))
                go_roundw
                case rel => exact ⟨u + 1, p, _, by omega, hp, by go_num, rfl, by first | rfl | go_num, HD2, HS2, trivial⟩
                case measure => simp [intOf]; omega
            · have hum2 : (u == m) = false := by rw [beq_eq_false_iff_ne]; exact hum
              have hum3 : ((u : Int) == (m : Int)) = false := by rw [beq_eq_false_iff_ne]; omega
              have HS2 := Lib.hid (show xsum (fun u => u &&& x == u) g (m + 1) = S by rw [HS0.out, hum2]; simp)
              clear hpq hum
              go_wp2_with (first | (go_at_call 36; refine (HW.out _).mono ?_; rintro e w' ⟨rfl, rfl⟩))
              go_roundw
              case rel => exact ⟨m + 1, p, S, by omega, hp, by go_num, rfl, rfl, HD2, HS2, trivial⟩
              case measure => simp [intOf]; omega
      · obtain rfl : m = s.size := by omega
        have hpd : p = dg := by rw [← HG.out, HDG.out]
        subst hpd
        have hval := HP.out.val x hxs
        rw [HS.out] at hval
        obtain ⟨hv1, hv2⟩ := HVO.out x hxs
        have hc := HVa.out (x : Int)
        rw [hv1] at hc
        simp only [if_true] at hc
        rw [show ((x : Nat) : Int).toNat = x from rfl, hv2, ← hval] at hc
        have HC := Lib.hid hc
        clear hc hv1 hv2 hval HS
        cases S
        all_goals
          go_wp2_with fail
          refine (HC.out _).mono ?_
          rintro e w7 ⟨rfl, hb7⟩
          have Hb7 := Lib.hid (bthen Hb5.out hb7)
          clear hb7
          go_wp2
          go_ret
          exact ⟨rfl, Hb7.out⟩
end Go.Proofs.YtflgooogiceliaaDoor

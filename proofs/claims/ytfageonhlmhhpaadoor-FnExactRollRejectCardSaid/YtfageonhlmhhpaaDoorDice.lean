import Derived.Test.YtfageonhlmhhpaaDoorBits
/- The die: the program and the reference draw the same; the law FnExactRollDice. -/
namespace Go.Proofs.YtfageonhlmhhpaaDoor
open Go.RowKit
set_option linter.unusedVariables false

inductive Dice (n : Int) (s : ByteArray) : Int → Int → Nat → Int × Int × Bool → Prop where
  | stop {v c : Int} : v < n → Dice n s v c s.size (0, 0, false)
  | bit {v c : Int} {u : Nat} {r : Int × Int × Bool} : v < n → u < s.size → Dice n s (2 * v) (2 * c + bitOf s u) (u + 1) r → Dice n s v c u r
  | hit {v c : Int} {u : Nat} : ¬ v < n → c < n → Dice n s v c u (c, (u : Int), true)
  | miss {v c : Int} {u : Nat} {r : Int × Int × Bool} : ¬ v < n → ¬ c < n → Dice n s (v - n) (c - n) u r → Dice n s v c u r

theorem Dice.det {n : Int} {s : ByteArray} {v c : Int} {u : Nat} {r r' : Int × Int × Bool} (h : Dice n s v c u r) (h' : Dice n s v c u r') : r = r' := by
  induction h with
  | stop h1 => cases h' with
    | stop => rfl
    | bit _ h2 => omega
    | hit h2 => exact absurd h1 h2
    | miss h2 => exact absurd h1 h2
  | bit h1 h2 _ ih => cases h' with
    | stop => omega
    | bit _ _ h3 => exact ih h3
    | hit h3 => exact absurd h1 h3
    | miss h3 => exact absurd h1 h3
  | hit h1 h2 => cases h' with
    | stop h3 => exact absurd h3 h1
    | bit h3 => exact absurd h3 h1
    | hit => rfl
    | miss _ h3 => exact absurd h2 h3
  | miss h1 h2 _ ih => cases h' with
    | stop h3 => exact absurd h3 h1
    | bit h3 => exact absurd h3 h1
    | hit _ h3 => exact absurd h3 h2
    | miss _ _ h3 => exact ih h3

def RetD (w : World) (r : Int × Int × Bool) (e : Ending) (w' : World) : Prop := e = .returned (.tuple #[.int .i64 r.1, .int .i64 r.2.1, .bool r.2.2]) ∧ Below w.heap.size w w'

def RetDice (n : Int) (s : ByteArray) (w : World) (e : Ending) (w' : World) : Prop := ∃ r, Dice n s 1 0 0 r ∧ RetD w r e w'

theorem isDrawn_any (n : Int) (w : World) : Calls Tryd.prog 35 #[.int .i64 n] w fun e w' => e = .returned (.bool (inR n 1 1000000)) ∧ w = w' := by
  go_enter Tryd.func35, Tryd.ntmps35
  go_wp2_with fail
  refine (inRange_any _ _ _ _).mono ?_
  rintro e w' ⟨rfl, rfl⟩
  go_wp2_with fail
  go_ret
  exact ⟨rfl, rfl⟩
theorem l06Number_any (n : Int) (w : World) : Calls Tryd.prog 34 #[.int .i64 n] w fun e w' => e = .returned (.bool (inR n 1 1000000)) ∧ w = w' := by
  go_enter Tryd.func34, Tryd.ntmps34
  go_wp2_with fail
  refine (l00In_any _ _ _ _).mono ?_
  rintro e w' ⟨rfl, rfl⟩
  go_wp2_with fail
  go_ret
  exact ⟨rfl, rfl⟩

set_option maxHeartbeats 1600000 in
theorem rollDice_any (n : Int) (s : ByteArray) (w : World) (hn : 1 ≤ n) (hn2 : n ≤ 1000000) (hs : isB s = true) :
    Calls Tryd.prog 36 #[.int .i64 n, .string s] w (RetDice n s w) := by
  have hsz := isB_size hs
  have HS := Lib.hid hs
  clear hs
  go_enter Tryd.func36, Tryd.ntmps36
  go_wp2
  go_loopw [7, 8, 9] (fun a b i wr => ∃ (v c : Int) (u : Nat), a = .int .i64 v ∧ b = .int .i64 c ∧ i = .int .i64 (u : Nat) ∧ u ≤ s.size ∧ 0 ≤ c ∧ c < v ∧ v < 2 * n ∧ (v < n ∨ c < n) ∧ (∀ r, Dice n s v c u r → Dice n s 1 0 0 r) ∧ ∃ q, wr = w.drewN q) (fun _ _ i _ => s.size - (intOf i).toNat)
  case atStart => exact ⟨1, 0, 0, rfl, rfl, rfl, by omega, by omega, by omega, by omega, by omega, fun r h => h, 0, rfl⟩
  case round =>
    obtain ⟨v0, c0, u0, rfl, rfl, rfl, hu0, hc0, hv0, hv1, hvc, hD0, q0, rfl⟩ := hrel
    have HD0 := Lib.hid hD0
    clear hD0
    go_wp2
    go_loopw [7, 8, 9] (fun a b i wr => ∃ (v c : Int) (u : Nat), a = .int .i64 v ∧ b = .int .i64 c ∧ i = .int .i64 (u : Nat) ∧ u ≤ s.size ∧ 0 ≤ c ∧ c < v ∧ v < 2 * n ∧ u0 ≤ u ∧ (u = u0 → v = v0 ∧ c = c0) ∧ (∀ r, Dice n s v c u r → Dice n s 1 0 0 r) ∧ ∃ q, wr = w.drewN q) (fun _ _ i _ => s.size - (intOf i).toNat)
    case atStart => exact ⟨v0, c0, u0, rfl, rfl, rfl, hu0, hc0, hv0, hv1, Nat.le_refl _, fun _ => ⟨rfl, rfl⟩, HD0.out, q0, rfl⟩
    case round =>
      obtain ⟨v, c, u, rfl, rfl, rfl, hu, hc, hv, hv2, huu, hsame, hD, q, rfl⟩ := hrel
      have HD := Lib.hid hD
      have Hs := Lib.hid hsame
      clear hD hsame
      by_cases hvn : v < n
      · by_cases hus : u = s.size
        · have : (u : Int) = (s.size : Int) := by omega
          go_wp2
          go_ret3
          subst hus
          exact ⟨(0, 0, false), HD.out _ (.stop (by omega)), rfl, drewN_below _ _⟩
        · have hus' : ¬ (u : Int) = (s.size : Int) := by omega
          have hlt : u < s.size := by omega
          have k0 : (0:Int) ≤ (u:Int) := by omega
          have k1 : (u:Int) < (s.size:Int) := by omega
          obtain ⟨hb, hb01⟩ := isB_at HS.out hlt
          have hg := get_by8 s u hlt
          rcases hb01 with hb0 | hb0
          · have hgx : ((s[u].toNat : Nat) : Int) = 48 := by rw [hg, hb, hb0]; rfl
            have HB := Lib.hid hb0
            clear hb hg hb0
            go_wp2
            go_quiet (fail)
            go_wp2
            go_roundw
            case rel =>
              refine ⟨2 * v, 2 * c, u + 1, rfl, rfl, by go_num, by omega, by omega, by omega, by omega, by omega, by omega, fun r hr => HD.out r (.bit (by omega) hlt ?_), _, rfl⟩
              rw [HB.out, Int.add_zero]; exact hr
            case measure => simp [intOf]; omega
          · have hgx : ((s[u].toNat : Nat) : Int) = 49 := by rw [hg, hb, hb0]; rfl
            have HB := Lib.hid hb0
            clear hb hg hb0
            go_wp2
            go_quiet (fail)
            go_wp2
            go_roundw
            case rel =>
              refine ⟨2 * v, 2 * c + 1, u + 1, rfl, rfl, by go_num, by omega, by omega, by omega, by omega, by omega, by omega, fun r hr => HD.out r (.bit (by omega) hlt ?_), _, rfl⟩
              rw [HB.out]; exact hr
            case measure => simp [intOf]; omega
      · by_cases hcn : c < n
        · go_wp2
          go_ret3
          exact ⟨(c, (u : Int), true), HD.out _ (.hit (by omega) (by omega)), rfl, drewN_below _ _⟩
        · have hne : u ≠ u0 := fun e => by have := Hs.out e; omega
          go_wp2
          go_roundw
          case rel => exact ⟨v - n, c - n, u, rfl, rfl, rfl, hu, by omega, by omega, by omega, by omega, fun r hr => HD.out r (.miss (by omega) (by omega) hr), _, rfl⟩
          case measure => simp [intOf]; omega

/-- What RollDice returns. -/
inductive DiceAll (n : Int) (s : ByteArray) : Int × Int × Bool → Prop where
  | no : (inR n 1 1000000 && isB s) = false → DiceAll n s (0, 0, false)
  | yes {r : Int × Int × Bool} : (inR n 1 1000000 && isB s) = true → Dice n s 1 0 0 r → DiceAll n s r
theorem DiceAll.det {n : Int} {s : ByteArray} {r r' : Int × Int × Bool} (h : DiceAll n s r) (h' : DiceAll n s r') : r = r' := by
  cases h with
  | no h1 => cases h' with
    | no => rfl
    | yes h2 => rw [h1] at h2; cases h2
  | yes h1 h2 => cases h' with
    | no h3 => rw [h1] at h3; cases h3
    | yes _ h3 => exact h2.det h3
def RetDA (n : Int) (s : ByteArray) (w : World) (e : Ending) (w' : World) : Prop := ∃ r, DiceAll n s r ∧ RetD w r e w'

set_option maxHeartbeats 800000 in
theorem rollDiceI_any (n : Int) (s : ByteArray) (w : World) (hs : s.size ≤ maxLen) :
    Calls Tryd.prog 15 #[.int .i64 n, .string s] w (RetDA n s w) := by
  cases hn : inR n 1 1000000 with
  | false =>
    go_enter Tryd.func15, Tryd.ntmps15
    go_wp2_with fail
    refine (isDrawn_any _ _).mono ?_
    rintro e w' ⟨rfl, rfl⟩
    rw [hn]
    go_wp2_with fail
    go_ret3
    exact ⟨_, .no (by rw [hn]; rfl), rfl, Below.refl _ _⟩
  | true =>
    have hnb : 1 ≤ n ∧ n ≤ 1000000 := by simpa [inR] using hn
    have HN := Lib.hid hn
    clear hn
    cases hb : isB s with
    | false =>
      have HB := Lib.hid hb
      clear hb
      go_enter Tryd.func15, Tryd.ntmps15
      go_wp2_with fail
      refine (isDrawn_any _ _).mono ?_
      rintro e w' ⟨rfl, rfl⟩
      rw [HN.out]
      go_wp2_with fail
      refine (isBits_any s _ hs).mono ?_
      rintro e w1 ⟨rfl, hb1⟩
      rw [HB.out]
      go_wp2_with fail
      go_ret3
      exact ⟨_, .no (by rw [HN.out, HB.out]; rfl), rfl, hb1⟩
    | true =>
      have HB := Lib.hid hb
      clear hb
      go_enter Tryd.func15, Tryd.ntmps15
      go_wp2_with fail
      refine (isDrawn_any _ _).mono ?_
      rintro e w' ⟨rfl, rfl⟩
      rw [HN.out]
      go_wp2_with fail
      refine (isBits_any s _ hs).mono ?_
      rintro e w1 ⟨rfl, hb1⟩
      rw [HB.out]
      go_wp2_with fail
      refine (rollDice_any n s _ hnb.1 hnb.2 HB.out).mono ?_
      rintro e w2 ⟨r, hr, rfl, hb2⟩
      have HR := Lib.hid hr
      clear hr
      obtain ⟨r1, r2, r3⟩ := r
      go_wp2_with fail
      go_ret3
      exact ⟨(r1, r2, r3), .yes (by rw [HN.out, HB.out]; rfl) HR.out, rfl, bthen hb1 hb2⟩
set_option maxHeartbeats 1600000 in
theorem rollDiceS_any (n : Int) (s : ByteArray) (w : World) (hs : s.size ≤ maxLen) :
    Calls Tryd.prog 14 #[.int .i64 n, .string s] w (RetDA n s w) := by
  cases hn : inR n 1 1000000 with
  | false =>
    go_enter Tryd.func14, Tryd.ntmps14
    go_wp2_with fail
    refine (l06Number_any _ _).mono ?_
    rintro e w' ⟨rfl, rfl⟩
    rw [hn]
    go_wp2_with fail
    go_ret3
    exact ⟨_, .no (by rw [hn]; rfl), rfl, Below.refl _ _⟩
  | true =>
    have hnb : 1 ≤ n ∧ n ≤ 1000000 := by simpa [inR] using hn
    have HN := Lib.hid hn
    clear hn
    cases hb : isB s with
    | false =>
      have HB := Lib.hid hb
      clear hb
      go_enter Tryd.func14, Tryd.ntmps14
      go_wp2_with fail
      refine (l06Number_any _ _).mono ?_
      rintro e w' ⟨rfl, rfl⟩
      rw [HN.out]
      go_wp2_with fail
      refine (l01Bits_any s _ hs).mono ?_
      rintro e w1 ⟨rfl, rfl⟩
      rw [HB.out]
      go_wp2_with fail
      go_ret3
      exact ⟨_, .no (by rw [HN.out, HB.out]; rfl), rfl, Below.refl _ _⟩
    | true =>
      have HB := Lib.hid hb
      have hsz := isB_size hb
      obtain ⟨hn1, hn2⟩ := hnb
      clear hb
      go_enter Tryd.func14, Tryd.ntmps14
      go_wp2_with fail
      refine (l06Number_any _ _).mono ?_
      rintro e w' ⟨rfl, rfl⟩
      rw [HN.out]
      go_wp2_with fail
      refine (l01Bits_any s _ hs).mono ?_
      rintro e w1 ⟨rfl, rfl⟩
      rw [HB.out]
      go_wp2_with fail
      have HY := Lib.hid (show ∀ r, Dice n s 1 0 0 r → DiceAll n s r from fun r hr => .yes (by rw [HN.out, HB.out]; rfl) hr)
      go_loopw [7, 8, 9] (fun a b i wr => ∃ (v c : Int) (u : Nat), a = .int .i64 v ∧ b = .int .i64 c ∧ i = .int .i64 (u : Nat) ∧ u ≤ s.size ∧ 0 ≤ c ∧ c < v ∧ v < 2 * n ∧ (v < n ∨ c < n) ∧ (∀ r, Dice n s v c u r → Dice n s 1 0 0 r) ∧ ∃ q, wr = w.drewN q) (fun _ _ i _ => s.size - (intOf i).toNat)
      case atStart => exact ⟨1, 0, 0, rfl, rfl, rfl, by omega, by omega, by omega, by omega, by omega, fun r h => h, 0, rfl⟩
      case round =>
        obtain ⟨v0, c0, u0, rfl, rfl, rfl, hu0, hc0, hv0, hv1, hvc, hD0, q0, rfl⟩ := hrel
        have HD0 := Lib.hid hD0
        clear hD0
        go_wp2
        go_loopw [7, 8, 9] (fun a b i wr => ∃ (v c : Int) (u : Nat), a = .int .i64 v ∧ b = .int .i64 c ∧ i = .int .i64 (u : Nat) ∧ u ≤ s.size ∧ 0 ≤ c ∧ c < v ∧ v < 2 * n ∧ u0 ≤ u ∧ (u = u0 → v = v0 ∧ c = c0) ∧ (∀ r, Dice n s v c u r → Dice n s 1 0 0 r) ∧ ∃ q, wr = w.drewN q) (fun _ _ i _ => s.size - (intOf i).toNat)
        case atStart => exact ⟨v0, c0, u0, rfl, rfl, rfl, hu0, hc0, hv0, hv1, Nat.le_refl _, fun _ => ⟨rfl, rfl⟩, HD0.out, q0, rfl⟩
        case round =>
          obtain ⟨v, c, u, rfl, rfl, rfl, hu, hc, hv, hv2, huu, hsame, hD, q, rfl⟩ := hrel
          have HD := Lib.hid hD
          have Hs := Lib.hid hsame
          clear hD hsame
          by_cases hvn : v < n
          · by_cases hus : u = s.size
            · have : (u : Int) = (s.size : Int) := by omega
              go_wp2
              go_ret3
              subst hus
              exact ⟨(0, 0, false), HY.out _ (HD.out _ (.stop (by omega))), rfl, drewN_below _ _⟩
            · have hus' : ¬ (u : Int) = (s.size : Int) := by omega
              have hlt : u < s.size := by omega
              have k0 : (0:Int) ≤ (u:Int) := by omega
              have k1 : (u:Int) < (s.size:Int) := by omega
              obtain ⟨hb, hb01⟩ := isB_at HB.out hlt
              have hg := get_by8 s u hlt
              rcases hb01 with hb0 | hb0
              · have hgx : ((s[u].toNat : Nat) : Int) = 48 := by rw [hg, hb, hb0]; rfl
                have HB0 := Lib.hid hb0
                clear hb hg hb0
                go_wp2
                go_roundw
                case rel =>
                  refine ⟨v * 2, 2 * c, u + 1, rfl, rfl, by go_num, by omega, by omega, by omega, by omega, by omega, by omega, fun r hr => HD.out r (.bit (by omega) hlt ?_), _, rfl⟩
                  rw [HB0.out, Int.add_zero, Int.mul_comm 2 v]; exact hr
                case measure => simp [intOf]; omega
              · have hgx : ((s[u].toNat : Nat) : Int) = 49 := by rw [hg, hb, hb0]; rfl
                have HB0 := Lib.hid hb0
                clear hb hg hb0
                go_wp2
                go_roundw
                case rel =>
                  refine ⟨v * 2, 2 * c + 1, u + 1, rfl, rfl, by go_num, by omega, by omega, by omega, by omega, by omega, by omega, fun r hr => HD.out r (.bit (by omega) hlt ?_), _, rfl⟩
                  rw [HB0.out, Int.mul_comm 2 v]; exact hr
                case measure => simp [intOf]; omega
          · by_cases hcn : c < n
            · go_wp2
              go_ret3
              exact ⟨(c, (u : Int), true), HY.out _ (HD.out _ (.hit (by omega) (by omega))), rfl, drewN_below _ _⟩
            · have hne : u ≠ u0 := fun e => by have := Hs.out e; omega
              go_wp2
              go_roundw
              case rel => exact ⟨v - n, c - n, u, rfl, rfl, rfl, hu, by omega, by omega, by omega, by omega, fun r hr => HD.out r (.miss (by omega) (by omega) hr), _, rfl⟩
              case measure => simp [intOf]; omega
set_option maxHeartbeats 800000 in
theorem fnExactRollDice_walk (n : Int) (s : ByteArray) (w : World) (hs : s.size ≤ maxLen) :
    Calls Tryd.prog 4 #[.int .i64 n, .string s] w fun e w' => e = .returned (.bool true) ∧ Below w.heap.size w w' := by
  by_cases hbig : 1048576 < s.size
  · have : (1048576 : Int) < (s.size : Int) := by omega
    go_enter Tryd.func4, Tryd.ntmps4
    go_wp2
    go_ret
    exact ⟨rfl, Below.refl _ _⟩
  · have : ¬ (1048576 : Int) < (s.size : Int) := by omega
    go_enter Tryd.func4, Tryd.ntmps4
    go_wp2_with fail
    refine (rollDiceS_any n s _ hs).mono ?_
    rintro e w1 ⟨⟨r1, r2, r3⟩, hr, rfl, hb1⟩
    have HR := Lib.hid hr
    clear hr
    go_wp2_with fail
    refine (rollDiceI_any n s _ hs).mono ?_
    rintro e w2 ⟨r', hr', rfl, hb2⟩
    obtain rfl := hr'.det HR.out
    clear hr'
    have hb := bthen hb1 hb2
    have Hb := Lib.hid hb
    clear hb hb1 hb2
    go_wp2_with fail
    go_ret
    exact ⟨rfl, Hb.out⟩
end Go.Proofs.YtfageonhlmhhpaaDoor

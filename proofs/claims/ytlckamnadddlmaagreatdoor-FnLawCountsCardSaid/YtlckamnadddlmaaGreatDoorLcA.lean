import Derived.Test.YtlckamnadddlmaaGreatDoorLawH
import Derived.Test.YtlckamnadddlmaaGreatDoorSrc
import Derived.Test.YtlckamnadddlmaaGreatDoorRuns
import Derived.Test.YtlckamnadddlmaaGreatDoorB10
/- What the law FnLawCounts calls: digits, ones, runs, a pattern. No condition but small numbers. -/
namespace Go.Proofs.YtlckamnadddlmaaGreatDoor
open Go.RowKit
set_option linter.unusedVariables false

/-- The digits of X, s of them, the greatest one first. -/
def lcB (x s k : Nat) : Bool := x.testBit (s - 1 - k)
def lcBy (x s m : Nat) : List Int := (List.range m).map fun k => if lcB x s k then 49 else 48
theorem lcBy_len (x s m : Nat) : (lcBy x s m).length = m := by simp [lcBy]
theorem lcBy_push (x s m : Nat) : lcBy x s m ++ [if lcB x s m then 49 else 48] = lcBy x s (m + 1) := by simp [lcBy, List.range_succ]
/-- The text of these digits. -/
def lcS (x s : Nat) : ByteArray := strOfNums (lcBy x s s)
theorem lcS_size (x s : Nat) : (lcS x s).size = s := by unfold lcS; rw [strOfNums_size, lcBy_len]
def oneC (s : ByteArray) : Nat → Nat
  | 0 => 0
  | i + 1 => oneC s i + (if by8 s i == 49 then 1 else 0)
theorem oneC_le (s : ByteArray) : ∀ i, oneC s i ≤ i
  | 0 => Nat.le_refl _
  | i + 1 => by have := oneC_le s i; rw [oneC]; split <;> omega
theorem Tryz.infoB9lc : (Tryz.prog.info? 5).map (fun i => (i.zero, i.size, i.bytes)) = some (some (.int .u8 0), 1, 1) := by kernel_rfl
set_option maxRecDepth 20000 in
theorem l01Digits_any (x s : Nat) (w : World) (hs : s ≤ 9) (hx : x < 512) : Calls Tryz.prog 36 #[.int .i64 (x : Nat), .int .i64 (s : Nat)] w fun e w' => e = .returned (.string (lcS x s)) ∧ Below w.heap.size w w' := by
  have H0 := Lib.hid (show GrowAt w (w.alloc (.cells #[] 5)) 5 (.slice (some ⟨w.heap.size, 0, none⟩) 0 0) 0 ((lcBy x s 0).map (Value.int .u8)) from GrowAt.start w 5)
  have hs1 : IntKind.i64.wrap ((s : Int) - 1) = (s : Int) - 1 := IntWalk.i64_in _ (by omega)
  go_enter Tryz.func36, Tryz.ntmps36
  go_wp2_with fail
  go_loopw [6, 5] (fun i v wr => ∃ (m : Nat) (a : Option Addr) (c : Nat), m ≤ s ∧ i = .int .i64 ((s : Int) - 1 - (m : Int)) ∧ v = .slice a m c ∧ Hid (GrowAt w wr 5 (.slice a m c) m ((lcBy x s m).map (Value.int .u8)))) (fun i _ _ => (intOf i + 1).toNat)
  case atStart => exact ⟨0, _, _, Nat.zero_le _, by simp, rfl, H0⟩
  case round =>
    clear H0
    obtain ⟨m, a, c, hm, rfl, rfl, HG⟩ := hrel
    by_cases hlt : m < s
    · obtain ⟨k, hk⟩ : ∃ k : Nat, (s : Int) - 1 - (m : Int) = (k : Int) := ⟨s - 1 - m, by omega⟩
      have hks : k = s - 1 - m := by omega
      have hk63 : k ≤ 9 := by omega
      have hk0 : (0 : Int) ≤ (k : Int) := by omega
      have hw1 : IntKind.i64.wrap ((k : Int) - 1) = (k : Int) - 1 := IntWalk.i64_in _ (by omega)
      obtain ⟨d, hd⟩ : ∃ d, x / 2 ^ k = d := ⟨_, rfl⟩
      have hdi : (x : Int) / 2 ^ k = (d : Int) := by rw [← hd, Int.natCast_ediv, Int.natCast_pow]; rfl
      have hdb : d ≤ x := by rw [← hd]; exact Nat.div_le_self _ _
      obtain ⟨t, ht⟩ : ∃ t, d % 2 = t := ⟨_, rfl⟩
      have hand : bits .and .i64 (d : Int) 1 = (t : Int) := by
        rw [← ht]
        have := and_i64 d 1 (by omega) (by omega)
        rw [show d &&& 1 = d % 2 from Nat.and_one_is_mod d] at this
        exact this
      have ht2 : t ≤ 1 := by omega
      have hbit : ((48 : Int) + (t : Int)) = if lcB x s m then 49 else 48 := by
        unfold lcB
        rw [← hks, Nat.testBit_eq_decide_div_mod_eq, hd, ht]
        rcases (show t = 0 ∨ t = 1 by omega) with rfl | rfl <;> rfl
      have HP := Lib.hid (show lcBy x s m ++ [(48 : Int) + (t : Int)] = lcBy x s (m + 1) by rw [hbit]; exact lcBy_push x s m)
      have hu8 : IntKind.u8.wrap ((48 : Int) + (t : Int)) = (48 : Int) + (t : Int) := by
        rcases (show t = 0 ∨ t = 1 by omega) with rfl | rfl <;> rfl
      have HK := Lib.hid hk
      rw [hk]
      clear hbit hd ht hk hks
      have HOW := Lib.hid (HG.out.alloc (.cells #[.int .u8 ((48 : Int) + (t : Int))] 5)).1
      have hsz := HG.out.2.size
      go_wp2_with (at_builtin; refine wpList_ap1 rfl (.tmp 14) (.tmp 22) 22 rfl w.heap.size 5 (.int .u8 0) 1 Tryz.underlying22 Tryz.infoB9lc rfl _ m _ rfl HOW.out _ (.int .u8 ((48 : Int) + (t : Int))) rfl (by go_simp) rfl (by omega) (by omega) (by simp only [alloc_size]; omega) ?_)
      intro v' w6 hown hgrow _
      obtain ⟨a6, c6, rfl⟩ := own_form hown
      have HG3 := Lib.hid (show GrowAt w w6 5 (.slice a6 (m + 1) c6) (m + 1) ((lcBy x s (m + 1)).map (Value.int .u8)) by
        rw [← HP.out, List.map_append]
        exact (HG.out.alloc _).push hown hgrow)
      clear hown hgrow
      go_wp2_with fail
      go_roundw
      case rel => exact ⟨m + 1, a6, c6, by omega, by have := HK.out; go_num, rfl, HG3⟩
      case measure => simp [intOf] <;> omega
    · obtain rfl : m = s := by omega
      have hn : ¬ (0 : Int) ≤ (m : Int) - 1 - (m : Int) := by omega
      have hc0 : (convert 22 9 (.slice a m c)).run Tryz.prog wr = .ok (.string (lcS x m)) wr := conv_own (P := Tryz.prog) 22 9 Tryz.underlying22 Tryz.underlying5 Tryz.underlying9 (w := wr) HG.out.1
      go_wp2_with fail
      go_ret
      exact ⟨rfl, HG.out.2⟩
theorem specBitsOf_any (x s : Nat) (w : World) (h1 : 1 ≤ s) (hs : s ≤ 9) (hx : x < 2 ^ s) : Calls Tryz.prog 12 #[.int .i64 (x : Nat), .int .i64 (s : Nat)] w fun e w' => e = .returned (.tuple #[.string (lcS x s), .bool true]) ∧ Below w.heap.size w w' := by
  have hp : 2 ^ s ≤ 2 ^ 9 := Nat.pow_le_pow_right (by omega) hs
  have HD := Lib.hid (fun w => l01Digits_any x s w hs (by omega))
  have HR := Lib.hid (show inR (s : Nat) 0 60 = true by simp only [inR, Bool.and_eq_true, decide_eq_true_eq]; omega)
  have hx0 : ¬ (x : Int) < 0 := by omega
  have hq : (x : Int) / 2 ^ s = 0 := by
    have : x / 2 ^ s = 0 := Nat.div_eq_of_lt hx
    have h2 : ((x / 2 ^ s : Nat) : Int) = (x : Int) / 2 ^ s := by rw [Int.natCast_ediv, Int.natCast_pow]; rfl
    rw [← h2, this]; rfl
  have hs0 : (0 : Int) ≤ (s : Int) := by omega
  clear hp
  go_enter Tryz.func12, Tryz.ntmps12
  go_wp2_with fail
  refine (l00In_any _ _ _ _).mono ?_
  rintro e w1 ⟨rfl, rfl⟩
  rw [HR.out]
  go_wp2_with fail
  refine (HD.out _).mono ?_
  rintro e w2 ⟨rfl, hb⟩
  have HB := Lib.hid hb
  clear hb
  go_wp2_with fail
  go_ret2
  exact ⟨rfl, HB.out⟩
theorem lcOnes_any (s : ByteArray) (w : World) (hs : s.size ≤ 400) (hb : isB s = true) : Calls Tryz.prog 38 #[.string s] w fun e w' => e = .returned (.int .i64 ((oneC s s.size : Nat) : Int)) ∧ w' = w := by
  have hle := oneC_le s
  go_enter Tryz.func38, Tryz.ntmps38
  go_wp2
  go_loopw [4, 3] (fun i v wr => ∃ (m S : Nat), m ≤ s.size ∧ i = .int .i64 (m : Nat) ∧ v = .int .i64 (S : Nat) ∧ Hid (oneC s m = S) ∧ wr = w) (fun i _ _ => s.size - (intOf i).toNat)
  case atStart => exact ⟨0, 0, Nat.zero_le _, rfl, rfl, Lib.hid rfl, rfl⟩
  case round =>
    obtain ⟨m, S, hm, rfl, rfl, HS, rfl⟩ := hrel
    by_cases hlt : m < s.size
    · have hm0 : (0:Int) ≤ (m:Int) := by omega
      have hmi : (m:Int) < (s.size:Int) := by omega
      obtain ⟨hb1, hb2⟩ := isB_at hb hlt
      have hSm : S ≤ m := by rw [← HS.out]; exact hle m
      have hst : oneC s (m + 1) = S + (if by8 s m == 49 then 1 else 0) := by rw [oneC, HS.out]
      have hbe : bitOf s m = ((if by8 s m == 49 then 1 else 0 : Nat) : Int) := by
        unfold bitOf
        by_cases h : by8 s m = 49
        · rw [if_pos h, h]; rfl
        · rw [if_neg h, if_neg (by simpa using h)]; rfl
      have hgb := get_by8 s m hlt
      obtain ⟨bt, hbt⟩ : ∃ b : Nat, (if by8 s m == 49 then 1 else 0 : Nat) = b := ⟨_, rfl⟩
      rw [hbt] at hst hbe
      rw [hbe] at hb1 hb2
      have hx : (((s[m]'hlt).toNat : Nat) : Int) = 48 + (bt : Int) := by rw [hgb]; exact hb1
      have hbt1 : bt ≤ 1 := by omega
      have HS2 := Lib.hid hst
      clear hst hbe hb1 hgb hbt hle hb2
      go_wp2
      go_roundw
      case rel => exact ⟨m + 1, S + bt, by omega, by go_num, by go_num, HS2, trivial⟩
      case measure => simp [intOf]; omega
    · obtain rfl : m = s.size := by omega
      go_wp2
      go_ret
      exact ⟨by rw [HS.out]; rfl, rfl⟩
theorem specOnesOf_any (s : ByteArray) (w : World) (hs : s.size ≤ 400) (hb : isB s = true) : Calls Tryz.prog 13 #[.string s] w fun e w' => e = .returned (.tuple #[.int .i64 ((oneC s s.size : Nat) : Int), .bool true]) ∧ Below w.heap.size w w' := by
  have HV := Lib.hid hb
  have HC := Lib.hid (fun w => lcOnes_any s w hs hb)
  clear hb
  go_enter Tryz.func13, Tryz.ntmps13
  go_wp2_with fail
  refine (l01Bits_any s _ (by unfold maxLen; omega)).mono ?_
  rintro e w1 ⟨rfl, rfl⟩
  rw [HV.out]
  go_wp2_with fail
  refine (HC.out _).mono ?_
  rintro e w2 ⟨rfl, rfl⟩
  go_wp2_with fail
  go_ret2
  exact ⟨rfl, Below.refl _ _⟩
theorem specRunLengths_any (s : ByteArray) (w : World) (hs : s.size ≤ 400) (hb : isB s = true) : Calls Tryz.prog 14 #[.string s] w fun e w' => ∃ a c, e = .returned (.tuple #[.slice a (rnL (begS s) s.size).length c, .bool true]) ∧ Below w.heap.size w w' := by
  have HV := Lib.hid hb
  have HC := Lib.hid (fun w => l01Runs_any s w hs)
  clear hb
  go_enter Tryz.func14, Tryz.ntmps14
  go_wp2_with fail
  refine (l01Bits_any s _ (by unfold maxLen; omega)).mono ?_
  rintro e w1 ⟨rfl, rfl⟩
  rw [HV.out]
  go_wp2_with fail
  refine (HC.out _).mono ?_
  rintro e w2 ⟨a, c, rfl, hown, hb⟩
  have HB := Lib.hid hb
  clear hb hown
  go_wp2_with fail
  go_ret2
  exact ⟨_, _, rfl, HB.out⟩
theorem lcText_any (L : List ByteArray) (b bl : Nat) (a : Option Addr) (len cap : Nat) (zs : List Int) (w0 w : World) (h : OwnAt w0 w [(bl, fun o => o = .cells (L.map Value.string).toArray 9 (0, 0)), (b, srcO a len cap 0)]) (hx : IsU8s w0 a len zs) (hl : len < 1000000000) (hL : 1 < L.length) (hL2 : L.length ≤ 100) :
    Calls Tryz.prog 20 #[.pointer (some ⟨b, 0, none⟩), .slice (some ⟨bl, 0, none⟩) L.length L.length] w fun e w' => ∃ j, j < L.length ∧ e = .returned (.string (L.getD j ⟨#[]⟩)) ∧ Below w0.heap.size w0 w' := by
  have HP := Lib.hid (srcPick_any 1 (L.length : Nat) b a len cap 0 zs w0 w _ h rfl hx (by omega) hl (by omega))
  clear h hx
  go_enter Tryz.func20, Tryz.ntmps20
  go_wp2_with fail
  refine HP.out.mono ?_
  rintro e w1 ⟨x, t', rfl, hx0, hx1, _, _, hO⟩
  obtain ⟨j, rfl⟩ := Int.eq_ofNat_of_zero_le hx0
  have hjl : j < L.length := by omega
  have hji : (j : Int) < (L.length : Int) := by omega
  have hc : w1.cell? ⟨bl, j, none⟩ = some (.string (L.getD j ⟨#[]⟩)) := by
    obtain ⟨_, hh⟩ := hO.1
    obtain ⟨_, o, ho, rfl⟩ := hh (bl, fun o => o = .cells (L.map Value.string).toArray 9 (0, 0)) (by simp)
    simp [World.cell?, ho, hjl, List.getD]
  have HB := Lib.hid hO.2
  obtain ⟨T, hT⟩ : ∃ T, L.getD j ⟨#[]⟩ = T := ⟨_, rfl⟩
  rw [hT] at hc
  have HT := Lib.hid hT
  clear hO hx1 hT
  go_wp2_with fail
  go_ret
  exact ⟨j, hjl, by rw [HT.out]; rfl, HB.out⟩
def lcP : List ByteArray := [⟨#[48]⟩, ⟨#[49]⟩, ⟨#[49, 49]⟩, ⟨#[48, 49]⟩, ⟨#[49, 48, 49]⟩, ⟨#[48, 48, 48]⟩, ⟨#[48, 49, 49, 48]⟩, ⟨#[49, 48, 49, 48, 49]⟩]
theorem specB10Pattern_any (a : Option Addr) (len cap : Nat) (zs : List Int) (w : World) (hx : IsU8s w a len zs) (hl : len < 1000000000) :
    Calls Tryz.prog 6 #[.slice a len cap] w fun e w' => ∃ j, j < 8 ∧ e = .returned (.string (lcP.getD j ⟨#[]⟩)) ∧ Below w.heap.size w w' := by
  have h1 : OwnAt w (w.alloc (.cells #[.slice a len cap, .int .i64 0, .int .u64 0] 74)) [(w.heap.size, srcO a len cap 0)] := ⟨(Owns.nil w w.heap.size).new (Nat.le_refl _) (srcO_new a len cap), (Below.refl _ _).alloc (Nat.le_refl _) _⟩
  have e1 : (w.alloc (.cells #[.slice a len cap, .int .i64 0, .int .u64 0] 74)).heap.size = w.heap.size + 1 := alloc_size _ _
  have h2 : OwnAt w ((w.alloc (.cells #[.slice a len cap, .int .i64 0, .int .u64 0] 74)).alloc (.cells (lcP.map Value.string).toArray 9 (0, 0))) [(w.heap.size + 1, fun o => o = .cells (lcP.map Value.string).toArray 9 (0, 0)), (w.heap.size, srcO a len cap 0)] := by
    have := h1.1.new (o := .cells (lcP.map Value.string).toArray 9 (0, 0)) (φ := fun o => o = .cells (lcP.map Value.string).toArray 9 (0, 0)) (by omega) rfl
    rw [e1] at this
    exact ⟨this, h1.2.alloc (by omega) _⟩
  have HT := Lib.hid (lcText_any lcP w.heap.size (w.heap.size + 1) a len cap zs w _ h2 hx hl (by decide) (by decide))
  clear h1 h2 hx e1
  go_enter Tryz.func6, Tryz.ntmps6
  go_wp2_with fail
  refine (srcFrom_any _ _ _ _).mono ?_
  rintro e w1 ⟨rfl, rfl⟩
  go_wp2_with fail
  refine HT.out.mono ?_
  rintro e w2 ⟨j, hj, rfl, hb⟩
  have HB := Lib.hid hb
  clear hb
  obtain ⟨T, hT⟩ : ∃ T, lcP.getD j ⟨#[]⟩ = T := ⟨_, rfl⟩
  have HTT := Lib.hid hT
  rw [hT]
  clear hT
  go_wp2_with fail
  go_ret
  exact ⟨j, hj, by rw [HTT.out]; rfl, HB.out⟩
end Go.Proofs.YtlckamnadddlmaaGreatDoor

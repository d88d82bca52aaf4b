import Derived.Test.YtpineiocjaajnaaDoorCcP
import Derived.Test.YtpineiocjaajnaaDoorPairI
import Derived.Test.YtpineiocjaajnaaDoorDraws
import Derived.Test.YtpineiocjaajnaaDoorOwnX
/- The law FnCoinChance: coins over all texts of a length. Condition: none (short texts are chosen). -/
namespace Go.Proofs.YtpineiocjaajnaaDoor
open Go.RowKit
set_option linter.unusedVariables false

/-- The first m digits of a number of s bits. -/
def ccBy (x s m : Nat) : List Int := (List.range m).map fun k => if ccB x s k then 49 else 48
theorem ccBy_len (x s m : Nat) : (ccBy x s m).length = m := by simp [ccBy]
theorem ccBy_push (x s m : Nat) : ccBy x s m ++ [if ccB x s m then 49 else 48] = ccBy x s (m + 1) := by simp [ccBy, List.range_succ]
theorem ccBy_01 (x s m : Nat) : ∀ y ∈ ccBy x s m, y = 48 ∨ y = 49 := by
  intro y hy
  simp only [ccBy, List.mem_map] at hy
  obtain ⟨k, _, rfl⟩ := hy
  split
  · exact Or.inr rfl
  · exact Or.inl rfl
theorem isB_numsC {xs : List Int} (h : ∀ x ∈ xs, x = 48 ∨ x = 49) (hl : xs.length ≤ 400) : isB (strOfNums xs) = true := by
  unfold isB
  rw [Bool.and_eq_true]
  refine ⟨decide_eq_true (by rw [strOfNums_size]; exact hl), ?_⟩
  unfold all01
  rw [strOfNums_data, List.all_eq_true]
  intro b hb
  obtain ⟨x, hx, rfl⟩ := List.mem_map.1 hb
  rcases h x hx with rfl | rfl <;> rfl
theorem by8_nums (xs : List Int) (k : Nat) (h : k < xs.length) : by8 (strOfNums xs) k = UInt8.ofNat (xs.getD k 0).toNat := by
  unfold by8
  rw [strOfNums_data]
  simp [List.getD, List.getElem?_eq_getElem h]
theorem strOfNums_add (xs ys : List Int) : strOfNums xs ++ strOfNums ys = strOfNums (xs ++ ys) := by
  apply ByteArray.ext
  apply Array.toList_inj.1
  rw [ByteArray.data_append, Array.toList_append, strOfNums_data, strOfNums_data, strOfNums_data, List.map_append]
theorem bitC_cc {x s k : Nat} (ys : List Int) (h : k < s) : bitC (strOfNums (ccBy x s s ++ ys)) k = ccB x s k := by
  unfold bitC
  rw [by8_nums _ _ (by rw [List.length_append, ccBy_len]; omega)]
  have e : (ccBy x s s ++ ys).getD k 0 = if ccB x s k then 49 else 48 := by
    rw [List.getD, List.getElem?_append_left (by rw [ccBy_len]; exact h)]
    simp [ccBy, h]
  rw [e]
  cases ccB x s k <;> rfl
theorem cfT_formC (o : Option (Bool × Nat)) : ∃ (x y : Int) (b : Bool), cfT o = .tuple #[.int .i64 x, .int .i64 y, .bool b] := by
  cases o with
  | none => exact ⟨_, _, _, rfl⟩
  | some p => exact ⟨_, _, _, rfl⟩
/-- What the coin draws from the digits of a number, with further bits or without. -/
theorem cc_text {P Q : Int} {x s : Nat} (hs : s ≤ 9) (hv : vF P Q = true) (hr : inR P 0 Q = true) : cfV P Q (strOfNums (ccBy x s s)) = cfA (ccB x s) (cfD Q P) s := by
  have hB : isB (strOfNums (ccBy x s s)) = true := isB_numsC (ccBy_01 x s s) (by rw [ccBy_len]; omega)
  unfold cfV cfOk
  rw [hv, hr, hB, strOfNums_size, ccBy_len]
  refine cfA_congr s fun k hk => ?_
  have := bitC_cc (x := x) [] hk
  rwa [List.append_nil] at this
theorem cc_more {P Q : Int} {x s : Nat} {y : Bool × Nat} (hs : s ≤ 9) (hv : vF P Q = true) (hr : inR P 0 Q = true) (h : cfA (ccB x s) (cfD Q P) s = some y) : cfV P Q (strOfNums (ccBy x s s ++ [48, 49])) = some y := by
  have hB : isB (strOfNums (ccBy x s s ++ [48, 49])) = true := isB_numsC (fun z hz => by
    rcases List.mem_append.1 hz with h | h
    · exact ccBy_01 x s s z h
    · simp only [List.mem_cons, List.not_mem_nil, or_false] at h; exact h) (by rw [List.length_append, ccBy_len]; simp; omega)
  unfold cfV cfOk
  rw [hv, hr, hB, strOfNums_size, List.length_append, ccBy_len]
  refine cfA_stay (m := s) ?_ _ (by simp)
  rw [← h]
  exact cfA_congr s fun k hk => bitC_cc _ hk
theorem Tryd.infoB9c : (Tryd.prog.info? 5).map (fun i => (i.zero, i.size, i.bytes)) = some (some (.int .u8 0), 1, 1) := by kernel_rfl
set_option maxRecDepth 20000 in
theorem r8Text_any (x s : Nat) (w : World) (hs : s ≤ 9) (hx : x < 512) : Calls Tryd.prog 22 #[.int .i64 (x : Nat), .int .i64 (s : Nat)] w fun e w' => e = .returned (.string (strOfNums (ccBy x s s))) ∧ Below w.heap.size w w' := by
  have H0 := Lib.hid (show GrowAt w (w.alloc (.cells #[] 5)) 5 (.slice (some ⟨w.heap.size, 0, none⟩) 0 0) 0 ((ccBy x s 0).map (Value.int .u8)) from GrowAt.start w 5)
  have hs1 : IntKind.i64.wrap ((s : Int) - 1) = (s : Int) - 1 := IntWalk.i64_in _ (by omega)
  go_enter Tryd.func22, Tryd.ntmps22
  go_wp2_with fail
  go_loopw [6, 5] (fun i v wr => ∃ (m : Nat) (a : Option Addr) (c : Nat), m ≤ s ∧ i = .int .i64 ((s : Int) - 1 - (m : Int)) ∧ v = .slice a m c ∧ Hid (GrowAt w wr 5 (.slice a m c) m ((ccBy x s m).map (Value.int .u8)))) (fun i _ _ => (intOf i + 1).toNat)
  case atStart => exact ⟨0, _, _, Nat.zero_le _, by simp, rfl, H0⟩
  case round =>
    clear H0
    obtain ⟨m, a, c, hm, rfl, rfl, HG⟩ := hrel
    by_cases hlt : m < s
    · obtain ⟨k, hk⟩ : ∃ k : Nat, (s : Int) - 1 - (m : Int) = (k : Int) := ⟨s - 1 - m, by omega⟩
      have hks : k = s - 1 - m := by omega
      have hk63 : k ≤ 9 := by omega
      have hk0 : (0 : Int) ≤ (k : Int) := by omega
      have hw1 : IntKind.i64.wrap ((k : Int) - 1) = (k : Int) - 1 := IntWalk.i64_in _ (by omega)
      obtain ⟨d, hd⟩ : ∃ d, x / 2 ^ k = d := ⟨_, rfl⟩
      have hdi : (x : Int) / 2 ^ k = (d : Int) := by rw [← hd, Int.natCast_ediv, Int.natCast_pow]; rfl
      have hdb : d ≤ x := by rw [← hd]; exact Nat.div_le_self _ _
      obtain ⟨t, ht⟩ : ∃ t, d % 2 = t := ⟨_, rfl⟩
      have hand : bits .and .i64 (d : Int) 1 = (t : Int) := by
        rw [← ht]
        have := and_i64 d 1 (by omega) (by omega)
        rw [show d &&& 1 = d % 2 from Nat.and_one_is_mod d] at this
        exact this
      have ht2 : t ≤ 1 := by omega
      have hbit : ((48 : Int) + (t : Int)) = if ccB x s m then 49 else 48 := by
        unfold ccB
        rw [← hks, Nat.testBit_eq_decide_div_mod_eq, hd, ht]
        rcases (show t = 0 ∨ t = 1 by omega) with rfl | rfl <;> rfl
      have HP := Lib.hid (show ccBy x s m ++ [(48 : Int) + (t : Int)] = ccBy x s (m + 1) by rw [hbit]; exact ccBy_push x s m)
      have hu8 : IntKind.u8.wrap ((48 : Int) + (t : Int)) = (48 : Int) + (t : Int) := by
        rcases (show t = 0 ∨ t = 1 by omega) with rfl | rfl <;> rfl
      have HK := Lib.hid hk
      rw [hk]
      clear hbit hd ht hk hks
      have HOW := Lib.hid (HG.out.alloc (.cells #[.int .u8 ((48 : Int) + (t : Int))] 5)).1
      have hsz := HG.out.2.size
      go_wp2_with (at_builtin; refine wpList_ap1 rfl (.tmp 14) (.tmp 22) 45 rfl w.heap.size 5 (.int .u8 0) 1 Tryd.underlying45 Tryd.infoB9c rfl _ m _ rfl HOW.out _ (.int .u8 ((48 : Int) + (t : Int))) rfl (by go_simp) rfl (by omega) (by omega) (by simp only [alloc_size]; omega) ?_)
      intro v' w6 hown hgrow _
      obtain ⟨a6, c6, rfl⟩ := own_form hown
      have HG3 := Lib.hid (show GrowAt w w6 5 (.slice a6 (m + 1) c6) (m + 1) ((ccBy x s (m + 1)).map (Value.int .u8)) by
        rw [← HP.out, List.map_append]
        exact (HG.out.alloc _).push hown hgrow)
      clear hown hgrow
      go_wp2_with fail
      go_roundw
      case rel => exact ⟨m + 1, a6, c6, by omega, by have := HK.out; go_num, rfl, HG3⟩
      case measure => simp [intOf] <;> omega
    · obtain rfl : m = s := by omega
      have hn : ¬ (0 : Int) ≤ (m : Int) - 1 - (m : Int) := by omega
      have hc0 : (convert 45 9 (.slice a m c)).run Tryd.prog wr = .ok (.string (strOfNums (ccBy x m m))) wr := conv_own (P := Tryd.prog) 45 9 Tryd.underlying45 Tryd.underlying5 Tryd.underlying9 (w := wr) HG.out.1
      go_wp2_with fail
      go_ret
      exact ⟨rfl, HG.out.2⟩
theorem below_2cc {w w' : World} {B g : Nat} (h : Below B w w') (hg : B ≤ g) (u v : Value) : Below B w ((w'.setCell ⟨g, 0, none⟩ u).setCell ⟨g, 1, none⟩ v) := (h.setCell (p := ⟨g, 0, none⟩) hg _).setCell (p := ⟨g, 1, none⟩) hg _
theorem makeFraction_any (p q : Nat) (w : World) (hp : p ≤ 1000000000000000000) (hq : q ≤ 1000000000000000000) (h0 : 0 < q) :
    Calls Tryd.prog 21 #[.int .i64 (p : Nat), .int .i64 (q : Nat)] w fun e w' => e = .returned (.tuple #[.agg #[.int .i64 (mkRat ((p : Nat) : Int) q).num, .int .i64 ((mkRat ((p : Nat) : Int) q).den : Nat)], .bool true]) ∧ Below w.heap.size w w' := by
  have hn := mk_num (n := (p : Int)) (Nat.ne_of_gt h0)
  have hd := mk_den (n := (p : Int)) (Nat.ne_of_gt h0)
  have hgp := Nat.gcd_pos_of_pos_right p h0
  have hgl : Nat.gcd p q ≤ q := Nat.gcd_le_right _ h0
  have HM := Lib.hid (fun (w : World) => sizeA_any (p : Nat) w (by omega) (by omega))
  have HG := Lib.hid (fun (w : World) => gcdI_any p q w (by omega) (by omega))
  rw [Int.natAbs_natCast] at hn hd HM
  have e1 : inR (p : Nat) (-1000000000000000000) 1000000000000000000 = true := by simp [inR]; omega
  have e2 : inR (q : Nat) (-1000000000000000000) 1000000000000000000 = true := by simp [inR]; omega
  have HE := Lib.hid (And.intro e1 e2)
  obtain ⟨G, hG⟩ : ∃ G, Nat.gcd p q = G := ⟨_, rfl⟩
  rw [hG] at hn hd hgp hgl HG
  have hdc : (q : Int) / (G : Int) = ((q / G : Nat) : Int) := by rw [Int.natCast_ediv]
  have hpc : (p : Int) / (G : Int) = ((p / G : Nat) : Int) := by rw [Int.natCast_ediv]
  obtain ⟨X, hX⟩ : ∃ X, p / G = X := ⟨_, rfl⟩
  obtain ⟨Y, hY⟩ : ∃ Y, q / G = Y := ⟨_, rfl⟩
  rw [hpc, hX] at hn
  rw [hX] at hpc
  rw [hY] at hd hdc
  have hXb : X ≤ p := by rw [← hX]; exact Nat.div_le_self _ _
  have hYb : Y ≤ q := by rw [← hY]; exact Nat.div_le_self _ _
  have HN := Lib.hid (And.intro hn hd)
  have hq0 : ¬ ((q : Nat) : Int) = 0 := by omega
  have hg0 : ((G : Int) == 0) = false := by rw [beq_eq_false_iff_ne]; omega
  have hg00 : ¬ (G : Int) = 0 := by omega
  have hg1 : (0 : Int) < (G : Int) := by omega
  have hq1 : ¬ (q : Int) < 0 := by omega
  have hxw : IntKind.i64.wrap (X : Int) = (X : Int) := IntWalk.i64_in _ (by omega)
  have hyw : IntKind.i64.wrap (Y : Int) = (Y : Int) := IntWalk.i64_in _ (by omega)
  have hqt : (q : Int).tdiv (G : Int) = (Y : Int) := by rw [Int.tdiv_eq_ediv_of_nonneg (by omega), hdc]
  have hpt : (p : Int).tdiv (G : Int) = (X : Int) := by rw [Int.tdiv_eq_ediv_of_nonneg (by omega), hpc]
  have hA : Below w.heap.size w (w.alloc (.cells #[.int .i64 0, .int .i64 0] 49)) := (Below.refl _ w).alloc (Nat.le_refl _) _
  have H0 := Lib.hid (And.intro (C2.new w 49 (.int .i64 0) (.int .i64 0)) hA)
  clear hn hd hG hX hY hgp hgl e1 e2 hA
  go_enter Tryd.func21, Tryd.ntmps21
  go_wp2_with fail
  refine (inRangeQ _ _ _ _).mono ?_
  rintro e w' ⟨rfl, rfl⟩
  rw [HE.out.1]
  go_wp2_with fail
  refine (inRangeQ _ _ _ _).mono ?_
  rintro e w' ⟨rfl, rfl⟩
  rw [HE.out.2]
  obtain ⟨wA, hwA⟩ : ∃ w', w.alloc (.cells #[.int .i64 0, .int .i64 0] 49) = w' := ⟨_, rfl⟩
  rw [hwA] at H0 ⊢
  clear hwA
  obtain ⟨y0, y1, y2, y3, y4⟩ := H0.out.1
  go_wp2_with fail
  refine (HM.out _).mono ?_
  rintro e w1 ⟨rfl, rfl⟩
  go_wp2_with fail
  refine (HG.out _).mono ?_
  rintro e w1 ⟨rfl, nq, rfl⟩
  have H2 := Lib.hid (And.intro (H0.out.1.all (drewN_below _ nq)) (bthen H0.out.2 (drewN_below _ nq)))
  obtain ⟨wB, hwB⟩ : ∃ w', w1.drewN nq = w' := ⟨_, rfl⟩
  rw [hwB] at H2 ⊢
  clear hwB y0 y1 y2 y3 y4
  obtain ⟨y0, y1, y2, y3, y4⟩ := H2.out.1
  go_wp2_with fail
  go_region
  all_goals (try go_wp2_with fail)
  refine bodyPost_ret (v := .tuple #[.agg #[.int .i64 X, .int .i64 (Y : Nat)], .bool true]) (by simp [results, Tryd.results21, go_sem, *]) rfl ⟨by rw [HN.out.1, HN.out.2], ?_⟩
  exact (below_2cc (B := w.heap.size) H2.out.2 (Nat.le_refl _) _ _).drew
/-- All that is asked of the fraction and its cost, by trying all. -/
def ccChk (D N : Nat) : Bool :=
  let r := mkRat (N : Int) D
  let P := r.num
  let Q := (r.den : Int)
  let c := pcR P.toNat (Q - P).toNat Q.toNat
  (vF P Q && (inR P 0 Q && decide (Q ≤ 40))) && ((inR P 1 (Q - 1) == (decide (0 < N) && decide (N < D))) && (!(inR P 1 (Q - 1)) || (fitR c && (decide (c.num.natAbs ≤ 1600) && (decide (c.den ≤ 1600) && (decide (0 < c.den) && decide (c.num * P * (Q - P) = (c.den : Int) * Q * Q)))))))
theorem cc_chk : ∀ D, D < 41 → 0 < D → ∀ N, N ≤ D → ccChk D N = true := by decide +kernel
structure CcN (D N : Nat) (P Q : Int) : Prop where
  v : vF P Q = true
  r : inR P 0 Q = true
  q : Q ≤ 40
  no : ¬ (0 < N ∧ N < D) → pcV P Q = .tuple #[.agg #[.int .i64 0, .int .i64 0], .bool false]
  yes : 0 < N → N < D → ∃ c1 c2 : Int, pcV P Q = .tuple #[.agg #[.int .i64 c1, .int .i64 c2], .bool true] ∧ c1.natAbs ≤ 1600 ∧ c2 ≤ 1600 ∧ 0 < c2 ∧ c1 * P * (Q - P) = c2 * Q * Q
theorem ccN {D N : Nat} (h0 : 0 < D) (h1 : D ≤ 40) (hN : N ≤ D) : CcN D N (mkRat (N : Int) D).num ((mkRat (N : Int) D).den : Nat) := by
  have h := cc_chk D (by omega) h0 N hN
  unfold ccChk at h
  dsimp only at h
  simp only [Bool.and_eq_true, decide_eq_true_eq] at h
  obtain ⟨⟨a, b, c⟩, d, e⟩ := h
  have hd := beq_iff_eq.1 d
  refine ⟨a, b, c, fun hn => ?_, fun h2 h3 => ?_⟩
  · unfold pcV
    have : inR (mkRat (N : Int) D).num 1 (((mkRat (N : Int) D).den : Nat) - 1) = false := by
      rw [hd]
      simp only [Bool.and_eq_false_iff, decide_eq_false_iff_not]
      omega
    rw [this, Bool.and_false]
    rfl
  · have hy : inR (mkRat (N : Int) D).num 1 (((mkRat (N : Int) D).den : Nat) - 1) = true := by
      rw [hd]
      simp only [Bool.and_eq_true, decide_eq_true_eq]
      exact ⟨h2, h3⟩
    rw [hy] at e
    simp only [Bool.not_true, Bool.false_or, Bool.and_eq_true, decide_eq_true_eq] at e
    obtain ⟨f, g, i, j, k⟩ := e
    refine ⟨_, _, ?_, g, by omega, by omega, k⟩
    unfold pcV
    rw [a, hy, Bool.and_true, if_pos rfl, fracV_yes f]
set_option maxRecDepth 100000 in
set_option maxHeartbeats 6400000 in
theorem fnCoinChance_walk (a a' : Option Addr) (len cap len' cap' : Nat) (bs bs' : List Int) (w : World) (hx : IsU8s w a len bs) (hx' : IsU8s w a' len' bs') :
    Calls Tryd.prog 6 #[.slice a len cap, .slice a' len' cap'] w fun e w' => e = .returned (.bool true) ∧ Below w.heap.size w w' := by
  cases hlong : (decide (48 < len) || decide (48 < len')) with
  | true =>
    go_enter Tryd.func6, Tryd.ntmps6
    go_wp2_with fail
    refine (r8Long_any _ _ _ _ _ _ _).mono ?_
    rintro e w' ⟨rfl, rfl⟩
    rw [hlong]
    go_wp2_with fail
    go_ret
    exact ⟨rfl, Below.refl _ _⟩
  | false =>
    have HX := Lib.hid hx
    have HX' := Lib.hid hx'
    have HL := Lib.hid hlong
    clear hx hx' hlong
    go_enter Tryd.func6, Tryd.ntmps6
    go_wp2_with fail
    refine (r8Long_any _ _ _ _ _ _ _).mono ?_
    rintro e w' ⟨rfl, rfl⟩
    rw [HL.out]
    go_wp2_with fail
    refine (r8At_any _ _ _ _ 0 40 _ HX.out).mono ?_
    rintro e w' ⟨x, rfl, hx0, hx1, rfl⟩
    obtain ⟨D, hD⟩ : ∃ D : Nat, 1 + x = (D : Int) := ⟨(1 + x).toNat, by omega⟩
    have hD1 : 0 < D := by omega
    have hD40 : D ≤ 40 := by omega
    have hwD : IntKind.i64.wrap (1 + x) = (D : Int) := by rw [hD]; exact IntWalk.i64_in _ (by omega)
    have hwD1 : IntKind.i64.wrap ((D : Int) + 1) = (D : Int) + 1 := IntWalk.i64_in _ (by omega)
    clear hx0 hx1
    go_wp2_with fail
    refine (r8At_any _ _ _ _ 1 ((D : Int) + 1) _ HX.out).mono ?_
    rintro e w' ⟨y, rfl, hy0, hy1, rfl⟩
    obtain ⟨N, rfl⟩ := Int.eq_ofNat_of_zero_le hy0
    have hND : N ≤ D := by omega
    have HC := Lib.hid (ccN hD1 hD40 hND)
    have HMK := Lib.hid (fun w => makeFraction_any N D w (by omega) (by omega) hD1)
    obtain ⟨P, hP⟩ : ∃ P, (mkRat (N : Int) D).num = P := ⟨_, rfl⟩
    obtain ⟨Q, hQ⟩ : ∃ Q : Int, (((mkRat (N : Int) D).den : Nat) : Int) = Q := ⟨_, rfl⟩
    rw [hP, hQ] at HC HMK
    clear hy0 hy1 hP hQ
    have hbd := HC.out.r
    simp only [inR, Bool.and_eq_true, decide_eq_true_eq] at hbd
    have hq := HC.out.q
    have hqv := (vF_iff.1 HC.out.v).1.1
    go_wp2_with fail
    refine (HMK.out _).mono ?_
    rintro e w1 ⟨rfl, hb⟩
    have hb1 : Below w1.heap.size w1 (w1.alloc (.cells #[.int .i64 P, .int .i64 Q] 49)) := (Below.refl _ _).alloc (Nat.le_refl _) _
    have H1 := Lib.hid (And.intro (C2.new w1 49 (.int .i64 P) (.int .i64 Q)) (bthen hb hb1))
    clear hb hb1
    obtain ⟨b7, hb7⟩ : ∃ b, w1.heap.size = b := ⟨_, rfl⟩
    obtain ⟨wA, hwA⟩ : ∃ w', w1.alloc (.cells #[.int .i64 P, .int .i64 Q] 49) = w' := ⟨_, rfl⟩
    rw [hwA, hb7] at H1
    obtain ⟨x0, x1, x2, x3, x4⟩ := H1.out.1
    have HW := Lib.hid (And.intro hwA hb7)
    clear hwA hb7
    go_upto_region 6 with fail
    rw [HW.out.1]
    try rw [HW.out.2]
    go_wp2_with fail
    refine (r8At_any _ _ _ _ 0 9 _ (HX'.out.below H1.out.2)).mono ?_
    rintro e w' ⟨z, rfl, hz0, hz1, rfl⟩
    obtain ⟨s, rfl⟩ := Int.eq_ofNat_of_zero_le hz0
    have hs9 : s ≤ 8 := by omega
    clear hz0 hz1
    obtain ⟨A, hA⟩ : ∃ A : Nat, 2 ^ s = A := ⟨_, rfl⟩
    have hA256 : A ≤ 256 := by rw [← hA]; exact Nat.pow_le_pow_right (by omega) hs9
    have hAi : (2 : Int) ^ s = (A : Int) := by rw [← hA, Int.natCast_pow]; rfl
    have hAw : IntKind.i64.wrap (A : Int) = (A : Int) := IntWalk.i64_in _ (by omega)
    have HEND := Lib.hid (cc_end (d := Q) (r0 := P) hbd s)
    obtain ⟨T, hT⟩ : ∃ T, ccT Q P s = T := ⟨_, rfl⟩
    rw [hT, hA, hAi] at HEND
    have hs0 : (0 : Int) ≤ (s : Int) := by omega
    have HT := Lib.hid hT
    have HAA := Lib.hid hA
    clear hT hA
    have HRND := Lib.hid (fun (x : Nat) (hx : x < A) => cc_round (d := Q) (r0 := P) (x := x) (s := s) (by rw [HAA.out]; exact hx))
    rw [HT.out] at HRND
    have H2 := Lib.hid (show C2 wA b7 (.int .i64 P) (.int .i64 Q) ∧ Below w.heap.size w wA from H1.out)
    clear x0 x1 x2 x3 x4 H1 HW
    go_wp2_with fail
    go_loopw [12, 10, 11] (fun i v10 v11 wr => ∃ (x : Nat) (h o : Int), x ≤ A ∧ i = .int .i64 (x : Nat) ∧ v10 = .int .i64 h ∧ v11 = .int .i64 o ∧ 0 ≤ h ∧ h ≤ (x : Int) ∧ 0 ≤ o ∧ o ≤ 1 ∧ Hid (h = ccH T x ∧ o = ccO T x) ∧ Hid (C2 wr b7 (.int .i64 P) (.int .i64 Q) ∧ Below w.heap.size w wr)) (fun i _ _ _ => A - (intOf i).toNat)
    case atStart => exact ⟨0, 0, 0, Nat.zero_le _, rfl, rfl, rfl, by omega, by omega, by omega, by omega, Lib.hid ⟨by have := ccT_bd (d := Q) (r0 := P) s; rw [HT.out] at this; unfold ccH; rw [if_pos (by omega)]; rfl, by have := ccT_bd (d := Q) (r0 := P) s; rw [HT.out] at this; unfold ccO; rw [if_pos (by omega)]⟩, H2⟩
    case round =>
      clear H2
      obtain ⟨x, h, o, hxA, rfl, rfl, rfl, hh0, hh1, ho0, ho1, HHO, H2⟩ := hrel
      obtain ⟨x0, x1, x2, x3, x4⟩ := H2.out.1
      have hx0 : (0 : Int) ≤ (x : Int) := by omega
      by_cases hlt : x < A
      · have hxi : (x : Int) < (A : Int) := by omega
        have HR := Lib.hid (HRND.out x hlt)
        have HTX := Lib.hid (fun w => r8Text_any x s w (by omega) (by omega))
        have hct := cc_text (x := x) (s := s) (by omega) HC.out.v HC.out.r
        have hsz : (strOfNums (ccBy x s s)).size = s := by rw [strOfNums_size, ccBy_len]
        have hsz2 : strOfNums (ccBy x s s) ++ { data := #[48, 49] } = strOfNums (ccBy x s s ++ [48, 49]) := strOfNums_add _ [48, 49]
        have hsz3 : (strOfNums (ccBy x s s ++ [48, 49])).size = s + 2 := by rw [strOfNums_size, List.length_append, ccBy_len]; rfl
        have HC1 := Lib.hid (fun w => coinFrom_any P Q (strOfNums (ccBy x s s)) w (by rw [hsz]; unfold maxLen; omega))
        have HC2 := Lib.hid (fun w => coinFrom_any P Q (strOfNums (ccBy x s s) ++ { data := #[48, 49] }) w (by rw [hsz2, hsz3]; unfold maxLen; omega))
        rw [hsz2] at HC2
        unfold RetCf at HC1 HC2
        rw [hct] at HC1
        rw [← hsz2] at HC2
        have HMO := Lib.hid (fun y h => cc_more (x := x) (s := s) (y := y) (by omega) HC.out.v HC.out.r h)
        rw [← hsz2] at HMO
        obtain ⟨t1, ht1⟩ : ∃ t, strOfNums (ccBy x s s) = t := ⟨_, rfl⟩
        rw [ht1] at HC1 HC2 HTX HMO hsz
        have htl : t1.size ≤ 9223372036854775806 := by omega
        have htl2 : t1.size ≤ 9 := by omega
        clear hct hsz hsz2 hsz3 ht1
        cases hA : cfA (ccB x s) (cfD Q P) s with
        | none =>
          rw [hA] at HC1 HR
          obtain ⟨u1, u2, u3, hf⟩ := cfT_formC (cfV P Q (t1 ++ { data := #[48, 49] }))
          rw [hf] at HC2
          have HC1' : Hid (∀ w, Calls Tryd.prog 23 #[.agg #[.int .i64 P, .int .i64 Q], .string t1] w fun e w' => e = .returned (.tuple #[.int .i64 0, .int .i64 0, .bool false]) ∧ Below w.heap.size w w') := HC1
          have HN2 := Lib.hid (show h = ccH T (x + 1) ∧ o + 1 = ccO T (x + 1) by
            have h1 := HR.out
            have h2 := HHO.out
            simp only at h1
            exact ⟨by rw [h1.2, h2.1], by rw [h1.1, h2.2]⟩)
          have ho2 : o + 1 ≤ 1 := by
            rw [HN2.out.2]; unfold ccO; split <;> omega
          clear hA hf HMO HR HC1 x0 x1 x2 x3 x4 HHO
          go_wp2_with fail
          refine (HTX.out _).mono ?_
          rintro e w2 ⟨rfl, hb⟩
          have H3 := Lib.hid (And.intro (H2.out.1.all hb) (bthen H2.out.2 hb))
          clear hb H2
          obtain ⟨x0, x1, x2, x3, x4⟩ := H3.out.1
          go_wp2_with fail
          refine (HC1'.out _).mono ?_
          rintro e w3 ⟨rfl, hb⟩
          have H4 := Lib.hid (And.intro (H3.out.1.all hb) (bthen H3.out.2 hb))
          clear hb H3 x0 x1 x2 x3 x4
          obtain ⟨x0, x1, x2, x3, x4⟩ := H4.out.1
          go_wp2_with fail
          refine (HC2.out _).mono ?_
          rintro e w4 ⟨rfl, hb⟩
          have H5 := Lib.hid (And.intro (H4.out.1.all hb) (bthen H4.out.2 hb))
          clear hb H4 x0 x1 x2 x3 x4
          have how : IntKind.i64.wrap (o + 1) = o + 1 := IntWalk.i64_in _ (by omega)
          go_wp2_with fail
          go_roundw
          case rel => exact ⟨x + 1, h, o + 1, by omega, by go_num, rfl, by go_num, hh0, by omega, by omega, ho2, HN2, H5⟩
          case measure => simp [intOf] <;> omega
        | some yk =>
          obtain ⟨b, k⟩ := yk
          have HC2' := HC2
          rw [HMO.out _ hA] at HC2'
          rw [hA] at HC1 HR
          have h1 := HR.out
          simp only at h1
          obtain ⟨h1a, h1b, h1c, h1d⟩ := h1
          cases b with
          | true =>
            have HD1 : Hid (∀ w, Calls Tryd.prog 23 #[.agg #[.int .i64 P, .int .i64 Q], .string t1] w fun e w' => e = .returned (.tuple #[.int .i64 1, .int .i64 (k : Nat), .bool true]) ∧ Below w.heap.size w w') := HC1
            have HD2 : Hid (∀ w, Calls Tryd.prog 23 #[.agg #[.int .i64 P, .int .i64 Q], .string (t1 ++ { data := #[48, 49] })] w fun e w' => e = .returned (.tuple #[.int .i64 1, .int .i64 (k : Nat), .bool true]) ∧ Below w.heap.size w w') := HC2'
            have HN2 := Lib.hid (show h + 1 = ccH T (x + 1) ∧ o = ccO T (x + 1) from ⟨by rw [h1b, ← HHO.out.1]; rfl, by rw [h1a, ← HHO.out.2]⟩)
            have hk1 : (1 : Int) ≤ (k : Int) := by omega
            have hk2 : (k : Int) ≤ (s : Int) := by omega
            have hhw : IntKind.i64.wrap (h + 1) = h + 1 := IntWalk.i64_in _ (by omega)
            clear hA HMO HR HC1 HC2 HC2' HHO h1a h1b h1c h1d x0 x1 x2 x3 x4
            go_wp2_with fail
            refine (HTX.out _).mono ?_
            rintro e w2 ⟨rfl, hb⟩
            have H3 := Lib.hid (And.intro (H2.out.1.all hb) (bthen H2.out.2 hb))
            clear hb H2
            obtain ⟨x0, x1, x2, x3, x4⟩ := H3.out.1
            go_wp2_with fail
            refine (HD1.out _).mono ?_
            rintro e w3 ⟨rfl, hb⟩
            have H4 := Lib.hid (And.intro (H3.out.1.all hb) (bthen H3.out.2 hb))
            clear hb H3 x0 x1 x2 x3 x4
            obtain ⟨x0, x1, x2, x3, x4⟩ := H4.out.1
            go_wp2_with fail
            refine (HD2.out _).mono ?_
            rintro e w4 ⟨rfl, hb⟩
            have H5 := Lib.hid (And.intro (H4.out.1.all hb) (bthen H4.out.2 hb))
            clear hb H4 x0 x1 x2 x3 x4
            go_wp2_with fail
            go_roundw
            case rel => exact ⟨x + 1, h + 1, o, by omega, by go_num, by go_num, rfl, by omega, by omega, ho0, ho1, HN2, H5⟩
            case measure => simp [intOf] <;> omega
          | false =>
            have HD1 : Hid (∀ w, Calls Tryd.prog 23 #[.agg #[.int .i64 P, .int .i64 Q], .string t1] w fun e w' => e = .returned (.tuple #[.int .i64 0, .int .i64 (k : Nat), .bool true]) ∧ Below w.heap.size w w') := HC1
            have HD2 : Hid (∀ w, Calls Tryd.prog 23 #[.agg #[.int .i64 P, .int .i64 Q], .string (t1 ++ { data := #[48, 49] })] w fun e w' => e = .returned (.tuple #[.int .i64 0, .int .i64 (k : Nat), .bool true]) ∧ Below w.heap.size w w') := HC2'
            have HN2 := Lib.hid (show h = ccH T (x + 1) ∧ o = ccO T (x + 1) from ⟨by rw [h1b, ← HHO.out.1]; simp, by rw [h1a, ← HHO.out.2]⟩)
            have hk1 : (1 : Int) ≤ (k : Int) := by omega
            have hk2 : (k : Int) ≤ (s : Int) := by omega
            have hhw : IntKind.i64.wrap h = h := IntWalk.i64_in _ (by omega)
            clear hA HMO HR HC1 HC2 HC2' HHO h1a h1b h1c h1d x0 x1 x2 x3 x4
            go_wp2_with fail
            refine (HTX.out _).mono ?_
            rintro e w2 ⟨rfl, hb⟩
            have H3 := Lib.hid (And.intro (H2.out.1.all hb) (bthen H2.out.2 hb))
            clear hb H2
            obtain ⟨x0, x1, x2, x3, x4⟩ := H3.out.1
            go_wp2_with fail
            refine (HD1.out _).mono ?_
            rintro e w3 ⟨rfl, hb⟩
            have H4 := Lib.hid (And.intro (H3.out.1.all hb) (bthen H3.out.2 hb))
            clear hb H3 x0 x1 x2 x3 x4
            obtain ⟨x0, x1, x2, x3, x4⟩ := H4.out.1
            go_wp2_with fail
            refine (HD2.out _).mono ?_
            rintro e w4 ⟨rfl, hb⟩
            have H5 := Lib.hid (And.intro (H4.out.1.all hb) (bthen H4.out.2 hb))
            clear hb H4 x0 x1 x2 x3 x4
            go_wp2_with fail
            go_roundw
            case rel => exact ⟨x + 1, h, o, by omega, by go_num, by go_num, rfl, by omega, by omega, ho0, ho1, HN2, H5⟩
            case measure => simp [intOf] <;> omega
      · obtain rfl : x = A := by omega
        have hxi : ¬ (x : Int) < (x : Int) := by omega
        have h1 := HEND.out
        rw [← HHO.out.1, ← HHO.out.2] at h1
        obtain ⟨rfl, h2, h3⟩ := h1
        have hPx : 0 ≤ P * (x : Int) ∧ P * (x : Int) ≤ 40 * 256 := ⟨Int.mul_nonneg hbd.1 hx0, Int.mul_le_mul (by omega) (by omega) hx0 (by omega)⟩
        have hhQ : 0 ≤ h * Q ∧ h * Q ≤ 256 * 40 := ⟨Int.mul_nonneg hh0 (by omega), Int.mul_le_mul (by omega) (by omega) (by omega) (by omega)⟩
        have hhQ2 : 0 ≤ (h + 1) * Q ∧ (h + 1) * Q ≤ 257 * 40 := ⟨Int.mul_nonneg (by omega) (by omega), Int.mul_le_mul (by omega) (by omega) (by omega) (by omega)⟩
        have hhw : IntKind.i64.wrap (h + 1) = h + 1 := IntWalk.i64_in _ (by omega)
        obtain ⟨z1, hz1⟩ : ∃ z, P * (x : Int) = z := ⟨_, rfl⟩
        obtain ⟨z2, hz2⟩ : ∃ z, h * Q = z := ⟨_, rfl⟩
        obtain ⟨z3, hz3⟩ : ∃ z, (h + 1) * Q = z := ⟨_, rfl⟩
        rw [hz1] at hPx h2 h3
        rw [hz2] at hhQ h2
        rw [hz3] at hhQ2 h3
        have hzw1 : IntKind.i64.wrap z1 = z1 := IntWalk.i64_in _ (by omega)
        have hzw2 : IntKind.i64.wrap z2 = z2 := IntWalk.i64_in _ (by omega)
        have hzw3 : IntKind.i64.wrap z3 = z3 := IntWalk.i64_in _ (by omega)
        have hcmp1 : ¬ z1 < z2 := by omega
        have hcmp2 : ¬ z3 < z1 := by omega
        have HPC := Lib.hid (fun w => pairCost_any P Q w)
        clear HHO
        by_cases hNN : 0 < N ∧ N < D
        · obtain ⟨c1, c2, hpc, hc1, hc2, hc3, hc4⟩ := HC.out.yes hNN.1 hNN.2
          rw [hpc] at HPC
          have hN1 : (0 : Int) < (N : Int) := by omega
          have hN2 : (N : Int) < (D : Int) := by omega
          have b1 : (c1 * P).natAbs ≤ 1600 * 40 := by rw [Int.natAbs_mul]; exact Nat.mul_le_mul hc1 (by omega)
          have b2 : (c1 * P * (Q - P)).natAbs ≤ 1600 * 40 * 40 := by rw [Int.natAbs_mul]; exact Nat.mul_le_mul b1 (by omega)
          have b3 : (c2 * Q).natAbs ≤ 1600 * 40 := by rw [Int.natAbs_mul]; exact Nat.mul_le_mul (by omega) (by omega)
          obtain ⟨d1, hd1⟩ : ∃ d, c1 * P = d := ⟨_, rfl⟩
          obtain ⟨d2, hd2⟩ : ∃ d, Q - P = d := ⟨_, rfl⟩
          rw [hd1] at b1 b2 hc4
          rw [hd2] at b2 hc4
          obtain ⟨d3, hd3⟩ : ∃ d, d1 * d2 = d := ⟨_, rfl⟩
          obtain ⟨d4, hd4⟩ : ∃ d, c2 * Q = d := ⟨_, rfl⟩
          rw [hd3] at b2 hc4
          rw [hd4] at b3 hc4
          have hd5 : d4 * Q = d3 := hc4.symm
          have w1 : IntKind.i64.wrap d1 = d1 := IntWalk.i64_in _ (by omega)
          have w2 : IntKind.i64.wrap d2 = d2 := IntWalk.i64_in _ (by omega)
          have w3 : IntKind.i64.wrap d3 = d3 := IntWalk.i64_in _ (by omega)
          have w4 : IntKind.i64.wrap d4 = d4 := IntWalk.i64_in _ (by omega)
          clear hc4 hpc
          go_wp2_with fail
          refine (HPC.out _).mono ?_
          rintro e wz ⟨rfl, hb⟩
          have hb1 : Below wz.heap.size wz (wz.alloc (.cells #[.int .i64 c1, .int .i64 c2] 49)) := (Below.refl _ _).alloc (Nat.le_refl _) _
          have H3 := Lib.hid (And.intro (H2.out.1.all (bthen hb hb1)) (And.intro (C2.new wz 49 (.int .i64 c1) (.int .i64 c2)) (bthen H2.out.2 (bthen hb hb1))))
          clear hb hb1 H2 x0 x1 x2 x3 x4
          obtain ⟨b21, hb21⟩ : ∃ b, wz.heap.size = b := ⟨_, rfl⟩
          obtain ⟨wC, hwC⟩ : ∃ w', wz.alloc (.cells #[.int .i64 c1, .int .i64 c2] 49) = w' := ⟨_, rfl⟩
          rw [hwC, hb21] at H3
          obtain ⟨x0, x1, x2, x3, x4⟩ := H3.out.1
          obtain ⟨y0, y1, y2, y3, y4⟩ := H3.out.2.1
          have HW := Lib.hid (And.intro hwC hb21)
          clear hwC hb21
          go_upto_region 26 with fail
          rw [HW.out.1]
          try rw [HW.out.2]
          go_wp2_with fail
          go_ret
          exact ⟨rfl, H3.out.2.2⟩
        · have hpc := HC.out.no hNN
          rw [hpc] at HPC
          have hN1 : ¬ ((0 : Int) < (N : Int) ∧ (N : Int) < (D : Int)) := by omega
          have hN2 : N = 0 ∨ N = D := by omega
          clear hpc
          rcases hN2 with rfl | rfl
          all_goals
            go_wp2_with fail
            refine (HPC.out _).mono ?_
            rintro e wz ⟨rfl, hb⟩
            have hb1 : Below wz.heap.size wz (wz.alloc (.cells #[.int .i64 0, .int .i64 0] 49)) := (Below.refl _ _).alloc (Nat.le_refl _) _
            have H3 := Lib.hid (And.intro (H2.out.1.all (bthen hb hb1)) (And.intro (C2.new wz 49 (.int .i64 0) (.int .i64 0)) (bthen H2.out.2 (bthen hb hb1))))
            clear hb hb1 H2 x0 x1 x2 x3 x4
            obtain ⟨b21, hb21⟩ : ∃ b, wz.heap.size = b := ⟨_, rfl⟩
            obtain ⟨wC, hwC⟩ : ∃ w', wz.alloc (.cells #[.int .i64 0, .int .i64 0] 49) = w' := ⟨_, rfl⟩
            rw [hwC, hb21] at H3
            obtain ⟨x0, x1, x2, x3, x4⟩ := H3.out.1
            obtain ⟨y0, y1, y2, y3, y4⟩ := H3.out.2.1
            have HW := Lib.hid (And.intro hwC hb21)
            clear hwC hb21
            go_upto_region 26 with fail
            rw [HW.out.1]
            try rw [HW.out.2]
            go_wp2_with fail
            go_ret
            exact ⟨rfl, H3.out.2.2⟩
end Go.Proofs.YtpineiocjaajnaaDoor

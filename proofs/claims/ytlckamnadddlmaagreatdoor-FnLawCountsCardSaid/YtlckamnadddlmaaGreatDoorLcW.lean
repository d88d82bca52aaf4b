import Derived.Test.YtlckamnadddlmaaGreatDoorLcP
import Derived.Test.YtlckamnadddlmaaGreatDoorPmW
import Derived.Test.YtlckamnadddlmaaGreatDoorPtR
/- All that the walk of FnLawCounts needs of the laws and of the texts. Condition: at most 9 bits. -/
namespace Go.Proofs.YtlckamnadddlmaaGreatDoor
open Go.RowKit
set_option linter.unusedVariables false

/-- What a law of counts answers. -/
structure LkC (n N : Nat) (V F : List Int) (P Q : Nat → Int) (c : Nat → Nat) : Prop where
  valid : ∀ w a1 a2 c1 c2, IsInts w a1 N V → IsInts w a2 (N * 2) F → Calls Tryz.prog 11 #[.agg #[.slice a1 N c1, .slice a2 N c2]] w fun e w' => e = .returned (.bool true) ∧ Below w.heap.size w w'
  chance : ∀ v w a1 a2 c1 c2, v ≤ n → IsInts w a1 N V → IsInts w a2 (N * 2) F → Calls Tryz.prog 17 #[.agg #[.slice a1 N c1, .slice a2 N c2], .int .i64 (v : Nat)] w fun e w' => e = .returned (.tuple #[.agg #[.int .i64 (P v), .int .i64 (Q v)], .bool true]) ∧ Below w.heap.size w w'
  make : ∀ v w, v ≤ n → Calls Tryz.prog 18 #[.int .i64 (c v : Nat), .int .i64 (2 ^ n : Nat)] w fun e w' => e = .returned (.tuple #[.agg #[.int .i64 (P v), .int .i64 (Q v)], .bool true]) ∧ Below w.heap.size w w'
/-- A law was answered. -/
def LrC (f : Nat) (args : Array Value) (N : Nat) (V F : List Int) : Prop := ∀ w, Calls Tryz.prog f args w fun e w' => ∃ a1 c1 a2 c2, e = .returned (.tuple #[.agg #[.slice a1 N c1, .slice a2 N c2], .bool true]) ∧ (IsInts w' a1 N V ∧ IsInts w' a2 (N * 2) F) ∧ Below w.heap.size w w'
theorem lrC_of {f : Nat} {args : Array Value} {V F : List Int} (h : ∀ w, Calls Tryz.prog f args w (RetLaw w true V F)) : LrC f args V.length V F := fun w => by
  refine (h w).mono ?_
  rintro e w' ⟨V', C', rfl, hl, hb⟩
  obtain ⟨a1, c1, rfl⟩ := own_shape hl.val
  obtain ⟨a2, c2, rfl⟩ := own_shape hl.cha
  exact ⟨a1, c1, a2, c2, rfl, ⟨IsInts.of_own hl.val, IsInts.of_own2 hl.cha⟩, hb⟩
def lcPn (n : Nat) (c : Nat → Nat) (v : Nat) : Int := (mkRat ((c v : Nat) : Int) (2 ^ n)).num
def lcQn (n : Nat) (c : Nat → Nat) (v : Nat) : Int := (((mkRat ((c v : Nat) : Int) (2 ^ n)).den : Nat) : Int)
theorem lkC {n : Nat} (h9 : n ≤ 9) (cs : List Int) (c : Nat → Nat) (hc : ∀ v, v < n + 1 → cs.getD v 0 = ((c v : Nat) : Int)) (hs : sum0 c (n + 1) = 2 ^ n) (hle : ∀ v, v ≤ n → c v ≤ 2 ^ n) :
    LkC n (lvT 0 cs (n + 1)).length (lvT 0 cs (n + 1)) (lfT cs (2 ^ n) (n + 1)) (lcPn n c) (lcQn n c) c := by
  have hp0 : 0 < 2 ^ n := Nat.two_pow_pos n
  have hp9 : 2 ^ n ≤ 2 ^ 9 := Nat.pow_le_pow_right (by omega) h9
  have hps : psum cs (n + 1) = ((2 ^ n : Nat) : Int) := by rw [psum_map0 c _ _ (fun i hi => hc i hi), hs]
  have hnn : ∀ i, i < n + 1 → 0 ≤ cs.getD i 0 := fun i hi => by rw [hc i hi]; omega
  have hq := lawQ_counts (first := 0) (cs := cs) (all := 2 ^ n) (m := n + 1) hp0 (by omega) hnn hps (by omega) (by omega)
  refine ⟨fun w a1 a2 c1 c2 h1 h2 => ?_, fun v w a1 a2 c1 c2 hv h1 h2 => ?_, fun v w hv => ?_⟩
  · have := validLaw_any a1 a2 _ _ c1 c2 _ _ w (by have := hq.n64; omega) (by have := hq.n64; omega) h1 h2
    rw [lawOk_of rfl hq] at this
    exact this
  · have hch := chP_counts (first := 0) (cs := cs) (all := 2 ^ n) (m := n + 1) hp0 hnn (i := v) (by omega)
    rw [hc v (by omega), Int.zero_add] at hch
    have := chanceOf_any a1 a2 _ _ c1 c2 _ _ (v : Nat) w (by have := hq.n64; omega) (by have := hq.n64; omega) h1 h2
    unfold chV at this
    rw [lawOk_of rfl hq, if_pos rfl, hch] at this
    exact this
  · have := hle v hv
    exact specMake_any (c v) (2 ^ n) w (by omega) (by omega) hp0
/-- All together. -/
structure LcAll (n : Nat) (P : ByteArray) (N0 N1 N2 N3 : Nat) (V0 F0 V1 F1 V2 F2 V3 F3 : List Int) (Pq Qq : Nat → Nat → Int) : Prop where
  l0 : LrC 7 #[.int .i64 (n : Nat)] N0 V0 F0
  l1 : LrC 8 #[.int .i64 (n : Nat)] N1 V1 F1
  l2 : LrC 9 #[.int .i64 (n : Nat)] N2 V2 F2
  l3 : LrC 10 #[.int .i64 (n : Nat), .string P] N3 V3 F3
  k0 : LkC n N0 V0 F0 (Pq 0) (Qq 0) (lcC P n 0)
  k1 : LkC n N1 V1 F1 (Pq 1) (Qq 1) (lcC P n 1)
  k2 : LkC n N2 V2 F2 (Pq 2) (Qq 2) (lcC P n 2)
  k3 : LkC n N3 V3 F3 (Pq 3) (Qq 3) (lcC P n 3)
  cn : ∀ k v, k < 4 → v ≤ n → cnF (lcF P n k) (2 ^ n) v = lcC P n k v
  fb : ∀ k X, k < 4 → X < 2 ^ n → lcF P n k X ≤ n
  bits : ∀ X w, X < 2 ^ n → Calls Tryz.prog 12 #[.int .i64 (X : Nat), .int .i64 (n : Nat)] w fun e w' => e = .returned (.tuple #[.string (lcS X n), .bool true]) ∧ Below w.heap.size w w'
  f0 : ∀ X w, X < 2 ^ n → Calls Tryz.prog 13 #[.string (lcS X n)] w fun e w' => e = .returned (.tuple #[.int .i64 (lcF P n 0 X : Nat), .bool true]) ∧ Below w.heap.size w w'
  f1 : ∀ X w, X < 2 ^ n → Calls Tryz.prog 14 #[.string (lcS X n)] w fun e w' => ∃ a c, e = .returned (.tuple #[.slice a (lcF P n 1 X) c, .bool true]) ∧ Below w.heap.size w w'
  f2 : ∀ X w, X < 2 ^ n → Calls Tryz.prog 15 #[.string (lcS X n)] w fun e w' => e = .returned (.tuple #[.int .i64 (lcF P n 2 X : Nat), .bool true]) ∧ Below w.heap.size w w'
  f3 : ∀ X w, X < 2 ^ n → Calls Tryz.prog 16 #[.string (lcS X n), .string P] w fun e w' => e = .returned (.tuple #[.int .i64 (lcF P n 3 X : Nat), .bool true]) ∧ Below w.heap.size w w'
theorem lcR_parts {P : ByteArray} {n k : Nat} (h : lcR P n k = true) : sum0 (lcC P n k) (n + 1) = 2 ^ n ∧ (∀ v, v ≤ n → cnF (lcF P n k) (2 ^ n) v = lcC P n k v) ∧ (∀ X, X < 2 ^ n → lcF P n k X ≤ n) := by
  unfold lcR at h
  simp only [Bool.and_eq_true, decide_eq_true_eq, List.all_eq_true, List.mem_range] at h
  exact ⟨h.1.1, fun v hv => h.1.2 v (by omega), fun X hX => h.2 X hX⟩
theorem lcC_no (P P' : ByteArray) (n k : Nat) (hk : k < 3) : lcR P n k = lcR P' n k := by
  have h1 : lcC P n k = lcC P' n k := by
    funext v
    match k, hk, v with
    | 0, _, v => rfl
    | 1, _, 0 => rfl
    | 1, _, v + 1 => rfl
    | 2, _, 0 => rfl
    | 2, _, v + 1 => rfl
  have h2 : lcF P n k = lcF P' n k := by
    funext v
    match k, hk with
    | 0, _ => rfl
    | 1, _ => rfl
    | 2, _ => rfl
  unfold lcR
  rw [h1, h2]
theorem fair_yes {n : Nat} (V : Nat → List Int) (h1 : 1 ≤ n) (h9 : n ≤ 9) : inR (n : Nat) 1 50 = true ∧ fairL V (n : Nat) = V n := by
  have hr : inR (n : Nat) 1 50 = true := by simp only [inR, Bool.and_eq_true, decide_eq_true_eq]; omega
  refine ⟨hr, ?_⟩
  unfold fairL
  rw [hr, if_pos rfl]
  rfl
theorem lcAll {n j : Nat} (h1 : 1 ≤ n) (h9 : n ≤ 9) (hj : j < 8) : ∃ N0 N1 N2 N3 V0 F0 V1 F1 V2 F2 V3 F3 Pq Qq, LcAll n (lcP.getD j ⟨#[]⟩) N0 N1 N2 N3 V0 F0 V1 F1 V2 F2 V3 F3 Pq Qq := by
  obtain ⟨P, hP⟩ : ∃ P, lcP.getD j ⟨#[]⟩ = P := ⟨_, rfl⟩
  have r0 := lcR_parts (lcR0 n (by omega) h1)
  have r1 := lcR_parts (lcR1 n (by omega) h1)
  have r2 := lcR_parts (lcR2 n (by omega) h1)
  have e0 := lcR_parts (P := P) (by rw [lcC_no P ⟨#[]⟩ n 0 (by omega)]; exact lcR0 n (by omega) h1)
  have e1 := lcR_parts (P := P) (by rw [lcC_no P ⟨#[]⟩ n 1 (by omega)]; exact lcR1 n (by omega) h1)
  have e2 := lcR_parts (P := P) (by rw [lcC_no P ⟨#[]⟩ n 2 (by omega)]; exact lcR2 n (by omega) h1)
  have e3 := lcR_parts (lcR3 j hj n (by omega) h1)
  have hpo := lcP_ok j hj
  rw [hP] at e3 hpo ⊢
  clear r0 r1 r2
  have hle : ∀ k, (∀ v, v ≤ n → cnF (lcF P n k) (2 ^ n) v = lcC P n k v) → ∀ v, v ≤ n → lcC P n k v ≤ 2 ^ n := fun k h v hv => by rw [← h v hv]; exact cnF_le _ _ _
  have hB : ∀ X, X < 2 ^ n → isB (lcS X n) = true := fun X hX => lcB_all n (by omega) X hX
  have q0 := lkC h9 (binR n (n + 1)) (lcC P n 0) (fun v hv => binR_at hv) e0.1 (hle 0 e0.2.1)
  have q1 := lkC h9 (0 :: runR n n) (lcC P n 1) (fun v hv => by
    match v, hv with
    | 0, _ => rfl
    | v + 1, hv =>
      show (runR n n).getD v 0 = _
      rw [runR_at (by omega)]
      show _ = ((2 * bin (n - 1) v : Nat) : Int)
      push_cast; rfl) e1.1 (hle 1 e1.2.1)
  have q2 := lkC h9 (0 :: loR n n) (lcC P n 2) (fun v hv => by
    match v, hv with
    | 0, _ => rfl
    | v + 1, hv =>
      show (loR n n).getD v 0 = _
      have hnn := long_nn (n := n) (i := v) (by omega)
      rw [loR_at (by omega)] at hnn ⊢
      show _ = ((2 * wy (v + 1) n - 2 * wy v n : Nat) : Int)
      omega) e2.1 (hle 2 e2.2.1)
  have q3 := lkC h9 (cntL P.data.toList n) (lcC P n 3) (fun v hv => by
    unfold cntL
    rw [getD_eq _ _ (by simpa using hv)]
    simp [lcC]) e3.1 (hle 3 e3.2.1)
  rw [lvT_shift, lfT_shift] at q1 q2
  obtain ⟨y0, y1⟩ := fair_yes onV h1 h9
  obtain ⟨_, y2⟩ := fair_yes onF h1 h9
  obtain ⟨_, y3⟩ := fair_yes ruV h1 h9
  obtain ⟨_, y4⟩ := fair_yes ruF h1 h9
  obtain ⟨_, y5⟩ := fair_yes ltV h1 h9
  obtain ⟨_, y6⟩ := fair_yes ltF h1 h9
  refine ⟨_, _, _, _, onV n, onF n, ruV n, ruF n, ltV n, ltF n, lvT 0 (cntL P.data.toList n) (n + 1), lfT (cntL P.data.toList n) (2 ^ n) (n + 1), fun k => lcPn n (lcC P n k), fun k => lcQn n (lcC P n k), ?_, ?_, ?_, ?_, q0, q1, q2, q3, ?_, ?_, ?_, ?_, ?_, ?_, ?_⟩
  · exact lrC_of fun w => by have := topOnesLaw onV onF (fun k w _ h2 => onesLaw_of lawOfC k w h2) (n : Nat) w; rw [y0, y1, y2] at this; exact this
  · exact lrC_of fun w => by have := topRunsLaw ruV ruF (fun k w h1 h2 => runsLaw_of lawOfC k w h2 h1) (n : Nat) w; rw [y0, y3, y4] at this; exact this
  · exact lrC_of fun w => by have := topLongestLaw ltV ltF (fun k w h1 h2 => longestLaw_of lawOfC k w h2 h1) (n : Nat) w; rw [y0, y5, y6] at this; exact this
  · exact lrC_of fun w => patI_any n P w h1 (by omega) hpo
  · intro k v hk hv
    match k, hk with
    | 0, _ => exact e0.2.1 v hv
    | 1, _ => exact e1.2.1 v hv
    | 2, _ => exact e2.2.1 v hv
    | 3, _ => exact e3.2.1 v hv
  · intro k X hk hX
    match k, hk with
    | 0, _ => exact e0.2.2 X hX
    | 1, _ => exact e1.2.2 X hX
    | 2, _ => exact e2.2.2 X hX
    | 3, _ => exact e3.2.2 X hX
  · exact fun X w hX => specBitsOf_any X n w h1 h9 hX
  · intro X w hX
    have := specOnesOf_any (lcS X n) w (by rw [lcS_size]; omega) (hB X hX)
    rw [lcS_size] at this
    exact this
  · intro X w hX
    have := specRunLengths_any (lcS X n) w (by rw [lcS_size]; omega) (hB X hX)
    rw [lcS_size] at this
    exact this
  · intro X w hX
    refine (specLongestRun_any (lcS X n) w (by rw [lcS_size]; unfold maxLen; omega)).mono ?_
    rintro e w' ⟨rfl, hb⟩
    refine ⟨?_, hb⟩
    have hnn := lcM_nn n (by omega) X hX
    unfold lgV
    rw [hB X hX, if_pos rfl, lcS_size]
    show Ending.returned (.tuple #[.int .i64 _, .bool true]) = Ending.returned (.tuple #[.int .i64 ((mxF (rnL (begS (lcS X n)) n) (rnL (begS (lcS X n)) n).length).toNat : Nat), .bool true])
    rw [Int.toNat_of_nonneg hnn]
  · intro X w hX
    have hps := hpo
    unfold patOk at hps
    rw [Bool.and_eq_true] at hps
    have hpsz := hps.2
    simp only [inR, Bool.and_eq_true, decide_eq_true_eq] at hpsz
    refine (countPatternS_any (lcS X n) P w (by rw [lcS_size]; unfold maxLen; omega) (by unfold maxLen; omega)).mono ?_
    rintro e w' ⟨rfl, hb⟩
    refine ⟨?_, hb⟩
    have hpa : patAll (lcS X n) P = true := by unfold patAll; rw [hB X hX, hpo]; rfl
    rw [hpa, if_pos rfl, lcS_size]
    show Ending.returned (.tuple #[.int .i64 (cntP (lcS X n) P n), .bool true]) = Ending.returned (.tuple #[.int .i64 ((cntP (lcS X n) P n).toNat : Nat), .bool true])
    rw [Int.toNat_of_nonneg (by unfold cntP; omega)]
end Go.Proofs.YtlckamnadddlmaaGreatDoor
/- The law FnLawCounts: the walk. Condition: none (few bits are chosen). -/
namespace Go.Proofs.YtlckamnadddlmaaGreatDoor
open Go.RowKit
set_option linter.unusedVariables false

/-- A law in a box. -/
structure LbM (w wr : World) (b : Nat) (a1 a2 : Option Addr) (N c1 c2 : Nat) (V F : List Int) : Prop where
  bx : C2 wr b (.slice a1 N c1) (.slice a2 N c2)
  val : IsInts wr a1 N V
  cha : IsInts wr a2 (N * 2) F
  bel : Below w.heap.size w wr
theorem LbM.all {w wr wx : World} {b : Nat} {a1 a2 : Option Addr} {N c1 c2 : Nat} {V F : List Int} (h : LbM w wr b a1 a2 N c1 c2 V F) (hb : Below wr.heap.size wr wx) : LbM w wx b a1 a2 N c1 c2 V F := ⟨h.bx.all hb, h.val.below hb, h.cha.below hb, bthen h.bel hb⟩
theorem LbM.new {w w1 : World} {a1 a2 : Option Addr} {N c1 c2 : Nat} {V F : List Int} (h1 : IsInts w1 a1 N V) (h2 : IsInts w1 a2 (N * 2) F) (hb : Below w.heap.size w w1) (t : Nat) : LbM w (w1.alloc (.cells #[.slice a1 N c1, .slice a2 N c2] t)) w1.heap.size a1 a2 N c1 c2 V F := by
  have hA : Below w1.heap.size w1 (w1.alloc (.cells #[.slice a1 N c1, .slice a2 N c2] t)) := (Below.refl _ _).alloc (Nat.le_refl _) _
  exact ⟨C2.new w1 t _ _, h1.below hA, h2.below hA, bthen hb hA⟩
theorem al_bel (w : World) (o : Obj) : Below w.heap.size w (w.alloc o) := (Below.refl _ w).alloc (Nat.le_refl _) o
/-- The counts while those of one text are added. -/
def lcM (f : Nat → Nat → Nat) (X i k v : Nat) : Int := if k < i then ((cnF (f k) (X + 1) v : Nat) : Int) else ((cnF (f k) X v : Nat) : Int)
theorem lcM_step (f : Nat → Nat → Nat) (X i k v : Nat) : (if k = i ∧ v = f i X then lcM f X i i (f i X) + 1 else lcM f X i k v) = lcM f X (i + 1) k v := by
  unfold lcM
  by_cases hk : k = i
  · subst hk
    by_cases hv : v = f k X
    · subst hv
      rw [if_pos ⟨rfl, rfl⟩, if_neg (Nat.lt_irrefl k), if_pos (Nat.lt_succ_self k), cnF, if_pos rfl]; push_cast; rfl
    · rw [if_neg (fun h => hv h.2), if_neg (Nat.lt_irrefl k), if_pos (Nat.lt_succ_self k), cnF, if_neg (fun h => hv h.symm)]; rfl
  · rw [if_neg (fun h => hk h.1)]
    by_cases h : k < i
    · rw [if_pos h, if_pos (by omega)]
    · rw [if_neg h, if_neg (by omega)]
theorem lcM_zero (f : Nat → Nat → Nat) (X k v : Nat) : lcM f X 0 k v = ((cnF (f k) X v : Nat) : Int) := by unfold lcM; rw [if_neg (Nat.not_lt_zero k)]
theorem lcM_four (f : Nat → Nat → Nat) (X k v : Nat) (hk : k < 4) : lcM f X 4 k v = ((cnF (f k) (X + 1) v : Nat) : Int) := by unfold lcM; rw [if_pos hk]
theorem lcM_at (f : Nat → Nat → Nat) (X i v : Nat) : lcM f X i i v = ((cnF (f i) X v : Nat) : Int) := by unfold lcM; rw [if_neg (Nat.lt_irrefl i)]
/-- Four fractions in a row. -/
structure R4 (w : World) (b : Nat) (P Q : Nat → Int) : Prop where
  lt : b < w.heap.size
  c0 : ∀ i, i < 4 → w.cell? ⟨b, i * 2, none⟩ = some (.int .i64 (P i))
  c1 : ∀ i, i < 4 → w.cell? ⟨b, i * 2 + 1, none⟩ = some (.int .i64 (Q i))
theorem R4.all {w wx : World} {b : Nat} {P Q : Nat → Int} (h : R4 w b P Q) (hb : Below w.heap.size w wx) : R4 wx b P Q :=
  ⟨Nat.lt_of_lt_of_le h.lt hb.size, fun i hi => (hb.cell (p := ⟨b, i * 2, none⟩) h.lt).trans (h.c0 i hi), fun i hi => (hb.cell (p := ⟨b, i * 2 + 1, none⟩) h.lt).trans (h.c1 i hi)⟩
theorem R4.of_heap {w : World} {b t : Nat} {P Q : Nat → Int} (h : w.heap[b]? = some (.cells #[.int .i64 (P 0), .int .i64 (Q 0), .int .i64 (P 1), .int .i64 (Q 1), .int .i64 (P 2), .int .i64 (Q 2), .int .i64 (P 3), .int .i64 (Q 3)] t (0, 0))) : R4 w b P Q := by
  refine ⟨lt_of_heap h, fun i hi => ?_, fun i hi => ?_⟩
  · match i, hi with
    | 0, _ => simp [World.cell?, h]
    | 1, _ => simp [World.cell?, h]
    | 2, _ => simp [World.cell?, h]
    | 3, _ => simp [World.cell?, h]
  · match i, hi with
    | 0, _ => simp [World.cell?, h]
    | 1, _ => simp [World.cell?, h]
    | 2, _ => simp [World.cell?, h]
    | 3, _ => simp [World.cell?, h]
theorem R4.new (w : World) (t : Nat) (P Q : Nat → Int) : R4 (w.alloc (.cells #[.int .i64 (P 0), .int .i64 (Q 0), .int .i64 (P 1), .int .i64 (Q 1), .int .i64 (P 2), .int .i64 (Q 2), .int .i64 (P 3), .int .i64 (Q 3)] t)) w.heap.size P Q := R4.of_heap (heap_at_new w _)
theorem fill4 (a0 b0 a1 b1 a2 b2 a3 b3 : Int) : Instr.fill (fun i => some (i * 2, 2)) ((Array.range (4 * 2)).map ((Value.agg #[.int .i64 0, .int .i64 0]).cells[· % (Value.agg #[.int .i64 0, .int .i64 0]).cells.size]!)) [(0, .agg #[.int .i64 a0, .int .i64 b0]), (1, .agg #[.int .i64 a1, .int .i64 b1]), (2, .agg #[.int .i64 a2, .int .i64 b2]), (3, .agg #[.int .i64 a3, .int .i64 b3])] = some #[.int .i64 a0, .int .i64 b0, .int .i64 a1, .int .i64 b1, .int .i64 a2, .int .i64 b2, .int .i64 a3, .int .i64 b3] := by
  have h : ((Array.range (4 * 2)).map ((Value.agg #[.int .i64 0, .int .i64 0]).cells[· % (Value.agg #[.int .i64 0, .int .i64 0]).cells.size]!)) = #[.int .i64 0, .int .i64 0, .int .i64 0, .int .i64 0, .int .i64 0, .int .i64 0, .int .i64 0, .int .i64 0] := by
    apply Array.ext'
    simp [Value.cells, Array.toList_range, List.range_succ]
  rw [h]
  simp [Instr.fill, Value.cells]
theorem Tryz.infoLcF : (Tryz.prog.info? 44).map (fun i => (i.zero, i.size, i.bytes)) = some (some (.agg #[.int .i64 0, .int .i64 0]), 2, 16) := by kernel_rfl
theorem Tryz.infoLcI : (Tryz.prog.info? 2).map (fun i => (i.zero, i.size, i.bytes)) = some (some (.int .i64 0), 1, 8) := by kernel_rfl
theorem Tryz.infoLcS : (Tryz.prog.info? 26).map (fun i => (i.zero, i.size, i.bytes)) = some (some (.slice none 0 0), 1, 24) := by kernel_rfl
theorem lc_nils (n : Nat) : (madeCells #[Value.slice none 0 0] n).toList = List.replicate n (Value.slice none 0 0) := by
  apply List.ext_getElem?
  intro i
  by_cases hi : i < n
  · simp [madeCells, hi, Nat.mod_one]
  · simp [madeCells, hi]
set_option maxRecDepth 100000 in
set_option maxHeartbeats 6400000 in
theorem fnLawCounts_walk (a a' : Option Addr) (len cap len' cap' : Nat) (bs bs' : List Int) (w : World) (hx : IsU8s w a len bs) (hx' : IsU8s w a' len' bs') :
    Calls Tryz.prog 3 #[.slice a len cap, .slice a' len' cap'] w fun e w' => e = .returned (.bool true) ∧ Below w.heap.size w w' := by
  cases hlong : (decide (1048576 < len) || decide (1048576 < len')) with
  | true =>
    go_enter Tryz.func3, Tryz.ntmps3
    go_wp2_with fail
    refine (b10Long_any _ _ _ _ _ _ _).mono ?_
    rintro e w' ⟨rfl, rfl⟩
    rw [hlong]
    go_wp2_with fail
    go_ret
    exact ⟨rfl, Below.refl _ _⟩
  | false =>
    obtain ⟨i0, hi, hz0, hz1, hz2⟩ := info_parts Tryz.infoLcI
    obtain ⟨i1, hj, hy0, hy1, hy2⟩ := info_parts Tryz.infoLcS
    obtain ⟨i2, hlf, hlf0, hlf1, hlf2⟩ := info_parts Tryz.infoLcF
    have hlen' : len' < 1000000000 := by simp at hlong; omega
    have HX := Lib.hid hx
    have HX' := Lib.hid hx'
    have HL := Lib.hid hlong
    clear hx hx' hlong
    go_enter Tryz.func3, Tryz.ntmps3
    go_wp2_with fail
    refine (b10Long_any _ _ _ _ _ _ _).mono ?_
    rintro e w' ⟨rfl, rfl⟩
    rw [HL.out]
    go_wp2_with fail
    refine (b10At_any _ _ _ _ 0 9 _ HX.out (by omega)).mono ?_
    rintro e w' ⟨x, rfl, hx0, hx1, rfl⟩
    obtain ⟨n, hn⟩ : ∃ n : Nat, 1 + x = (n : Int) := ⟨(1 + x).toNat, by omega⟩
    have hn1 : 1 ≤ n := by omega
    have hn9 : n ≤ 9 := by omega
    have hwn : IntKind.i64.wrap (1 + x) = (n : Int) := by rw [hn]; exact IntWalk.i64_in _ (by omega)
    clear hx0 hx1
    go_wp2_with fail
    refine (specB10Pattern_any _ _ _ _ _ HX'.out hlen').mono ?_
    rintro e wP ⟨j, hj8, rfl, hbP⟩
    obtain ⟨N0, N1, N2, N3, V0, F0, V1, F1, V2, F2, V3, F3, Pq, Qq, hC⟩ := lcAll hn1 hn9 hj8
    obtain ⟨P, hP⟩ : ∃ P, lcP.getD j ⟨#[]⟩ = P := ⟨_, rfl⟩
    rw [hP] at hC ⊢
    have HC := Lib.hid hC
    have HBP := Lib.hid hbP
    clear hC hP hbP hn
    go_wp2_with fail
    refine (HC.out.l0 _).mono ?_
    rintro e w1 ⟨a1, c1, a2, c2, rfl, hi1, hb⟩
    have H1 := Lib.hid (LbM.new (c1 := c1) (c2 := c2) hi1.1 hi1.2 (bthen HBP.out hb) 29)
    clear hi1 hb
    go_wp2_with fail
    obtain ⟨b7, hb7⟩ : ∃ b, w1.heap.size = b := ⟨_, rfl⟩
    obtain ⟨wA, hwA⟩ : ∃ w', w1.alloc (.cells #[.slice a1 N0 c1, .slice a2 N0 c2] 29) = w' := ⟨_, rfl⟩
    rw [hwA, hb7] at H1
    rw [hwA, hb7]
    clear hwA hb7
    refine (HC.out.l1 _).mono ?_
    rintro e w2 ⟨a3, c3, a4, c4, rfl, hi1, hb⟩
    have H2 := Lib.hid (And.intro ((H1.out.all hb).all (al_bel w2 (.cells #[.slice a3 N1 c3, .slice a4 N1 c4] 29))) (LbM.new (c1 := c3) (c2 := c4) hi1.1 hi1.2 (bthen H1.out.bel hb) 29))
    clear hi1 hb H1
    go_wp2_with fail
    obtain ⟨b9, hb9⟩ : ∃ b, w2.heap.size = b := ⟨_, rfl⟩
    obtain ⟨wB, hwB⟩ : ∃ w', w2.alloc (.cells #[.slice a3 N1 c3, .slice a4 N1 c4] 29) = w' := ⟨_, rfl⟩
    rw [hwB, hb9] at H2
    rw [hwB, hb9]
    clear hwB hb9
    refine (HC.out.l2 _).mono ?_
    rintro e w3 ⟨a5, c5, a6, c6, rfl, hi1, hb⟩
    have H3 := Lib.hid (And.intro ((H2.out.1.all hb).all (al_bel w3 (.cells #[.slice a5 N2 c5, .slice a6 N2 c6] 29))) (And.intro ((H2.out.2.all hb).all (al_bel w3 (.cells #[.slice a5 N2 c5, .slice a6 N2 c6] 29))) (LbM.new (c1 := c5) (c2 := c6) hi1.1 hi1.2 (bthen H2.out.1.bel hb) 29)))
    clear hi1 hb H2
    go_wp2_with fail
    obtain ⟨b11, hb11⟩ : ∃ b, w3.heap.size = b := ⟨_, rfl⟩
    obtain ⟨wC, hwC⟩ : ∃ w', w3.alloc (.cells #[.slice a5 N2 c5, .slice a6 N2 c6] 29) = w' := ⟨_, rfl⟩
    rw [hwC, hb11] at H3
    rw [hwC, hb11]
    clear hwC hb11
    refine (HC.out.l3 _).mono ?_
    rintro e w4 ⟨a7, c7, a8, c8, rfl, hi1, hb⟩
    have hA4 := al_bel w4 (.cells #[.slice a7 N3 c7, .slice a8 N3 c8] 29)
    have H4 := Lib.hid (And.intro ((H3.out.1.all hb).all hA4) (And.intro ((H3.out.2.1.all hb).all hA4) (And.intro ((H3.out.2.2.all hb).all hA4) (LbM.new (c1 := c7) (c2 := c8) hi1.1 hi1.2 (bthen H3.out.1.bel hb) 29))))
    have h7 := (H3.out.1.all hb).bx
    clear hi1 hb H3 hA4
    obtain ⟨x0, x1, x2, x3, x4⟩ := h7
    go_wp2_with fail
    obtain ⟨b13, hb13⟩ : ∃ b, w4.heap.size = b := ⟨_, rfl⟩
    obtain ⟨wD, hwD⟩ : ∃ w', w4.alloc (.cells #[.slice a7 N3 c7, .slice a8 N3 c8] 29) = w' := ⟨_, rfl⟩
    rw [hwD, hb13] at H4
    rw [hwD]
    try rw [hb13]
    clear hwD hb13 x0 x1 x2 x3 x4
    refine (HC.out.k0.valid _ _ _ _ _ H4.out.1.val H4.out.1.cha).mono ?_
    rintro e w5 ⟨rfl, hb⟩
    have H5 := Lib.hid (And.intro (H4.out.1.all hb) (And.intro (H4.out.2.1.all hb) (And.intro (H4.out.2.2.1.all hb) (H4.out.2.2.2.all hb))))
    clear hb H4
    obtain ⟨x0, x1, x2, x3, x4⟩ := H5.out.2.1.bx
    go_wp2_with fail
    refine (HC.out.k1.valid _ _ _ _ _ H5.out.2.1.val H5.out.2.1.cha).mono ?_
    rintro e w6 ⟨rfl, hb⟩
    have H6 := Lib.hid (And.intro (H5.out.1.all hb) (And.intro (H5.out.2.1.all hb) (And.intro (H5.out.2.2.1.all hb) (H5.out.2.2.2.all hb))))
    clear hb H5 x0 x1 x2 x3 x4
    obtain ⟨x0, x1, x2, x3, x4⟩ := H6.out.2.2.1.bx
    go_wp2_with fail
    refine (HC.out.k2.valid _ _ _ _ _ H6.out.2.2.1.val H6.out.2.2.1.cha).mono ?_
    rintro e w7 ⟨rfl, hb⟩
    have H7 := Lib.hid (And.intro (H6.out.1.all hb) (And.intro (H6.out.2.1.all hb) (And.intro (H6.out.2.2.1.all hb) (H6.out.2.2.2.all hb))))
    clear hb H6 x0 x1 x2 x3 x4
    obtain ⟨x0, x1, x2, x3, x4⟩ := H7.out.2.2.2.bx
    go_wp2_with fail
    refine (HC.out.k3.valid _ _ _ _ _ H7.out.2.2.2.val H7.out.2.2.2.cha).mono ?_
    rintro e w8 ⟨rfl, hb⟩
    have H8 := Lib.hid (And.intro (H7.out.1.all hb) (And.intro (H7.out.2.1.all hb) (And.intro (H7.out.2.2.1.all hb) (H7.out.2.2.2.all hb))))
    clear hb H7 x0 x1 x2 x3 x4
    go_wp2_with (at_make; refine wpList_make_full _ rfl _ _ 34 rfl w8.heap.size 26 i1 (.slice none 0 0) 1 Tryz.underlying34 hj hy0 hy1 _ _ _ _ 4 rfl rfl rfl rfl ?d1 ?d2 ?d3 ?_)
    all_goals first | (rw [hy2]; omega) | (unfold maxLen; omega) | exact Nat.le_refl _ | skip
    intro w9 hown2 hgrow2
    rw [lc_nils] at hown2
    have HM0 := Lib.hid (show OwM w8 w9 (mtO w8.heap.size 4 (n + 1) [] (fun _ _ => 0) ++ []) from mt_start ⟨Owns.nil _ _, Below.refl _ _⟩ hown2 hgrow2)
    clear hown2 hgrow2
    obtain ⟨g, hg⟩ : ∃ x, w8.heap.size = x := ⟨_, rfl⟩
    rw [hg] at HM0 ⊢
    clear hg
    have hn1w : IntKind.i64.wrap ((n : Int) + 1) = (n : Int) + 1 := IntWalk.i64_in _ (by omega)
    have hni : (0 : Int) ≤ (n : Int) := by omega
    have HZ := Lib.hid (zeros_toList (n + 1))
    go_wp2_with fail
    go_loopw [16] (fun i wr => ∃ gs : List Nat, gs.length ≤ 4 ∧ i = .int .i64 (gs.length : Nat) ∧ Hid (OwM w8 wr (mtO g 4 (n + 1) gs (fun _ _ => 0) ++ []))) (fun i _ => 4 - (intOf i).toNat)
    case atStart => exact ⟨[], by simp, rfl, HM0⟩
    case round =>
      clear HM0
      obtain ⟨gs, hgs, rfl, HM⟩ := hrel
      by_cases hlt : gs.length < 4
      · have hki : (gs.length : Int) < 4 := by omega
        have hk0 : (0 : Int) ≤ (gs.length : Int) := by omega
        go_wp2_with (at_make; refine wpList_make_full _ rfl _ _ 26 rfl wr.heap.size 2 i0 (.int .i64 0) 1 Tryz.underlying26 hi hz0 hz1 _ _ _ _ (n + 1) rfl rfl ?eL ?eC ?e1 ?e2 ?e3 ?_)
        all_goals first | (push_cast; rfl) | (rw [hz2]; omega) | (unfold maxLen; omega) | exact Nat.le_refl _ | skip
        intro w3 hown3 hgrow3
        rw [HZ.out] at hown3
        have HM3 := Lib.hid (HM.out.ret ((Below.refl _ _).grown hgrow3 (Nat.le_refl _) (by simp)))
        have HPU := Lib.hid (mt_push HM.out hlt hown3 hgrow3)
        obtain ⟨q0, q1⟩ := HM3.out.gap hlt
        clear hown3 hgrow3
        go_wp2_with fail
        go_roundw
        case rel => exact ⟨gs ++ [wr.heap.size], by simp; omega, by rw [List.length_append]; go_num, HPU⟩
        case measure => simp [intOf]; omega
      · have hge : gs.length = 4 := by omega
        have hki : ¬ (gs.length : Int) < 4 := by omega
        obtain ⟨f, hf⟩ : ∃ f, lcF P n = f := ⟨_, rfl⟩
        have HF := Lib.hid hf
        have HFB := Lib.hid (show ∀ k X, k < 4 → X < 2 ^ n → f k X ≤ n from fun k X hk hX => by rw [← hf]; exact HC.out.fb k X hk hX)
        have hpw := pow_cast n (by omega)
        have hp9 : 2 ^ n ≤ 512 := Nat.le_trans (Nat.pow_le_pow_right (by omega) hn9) (by decide)
        have hcv : IntKind.u64.wrap (n : Int) = (n : Int) := IntWalk.u64_in _ (by omega)
        obtain ⟨A, hA⟩ : ∃ A, 2 ^ n = A := ⟨_, rfl⟩
        have HA := Lib.hid hA
        rw [hA] at hpw hp9 HFB
        clear hA hf
        have HM1 := Lib.hid (show OwM w8 wr (mtO g 4 (n + 1) gs (fun k v => ((cnF (f k) 0 v : Nat) : Int)) ++ []) from HM.out.congr fun k v _ _ => rfl)
        clear HM
        go_wp2_with fail
        go_loopw [17] (fun i wx => ∃ X : Nat, X ≤ A ∧ i = .int .i64 (X : Nat) ∧ Hid (OwM w8 wx (mtO g 4 (n + 1) gs (fun k v => ((cnF (f k) X v : Nat) : Int)) ++ []))) (fun i _ => A - (intOf i).toNat)
        case atStart => exact ⟨0, Nat.zero_le _, rfl, HM1⟩
        case round =>
          clear HM1
          obtain ⟨X, hX, rfl, HM⟩ := hrel
          by_cases hXA : X < A
          · have hXi : (X:Int) < (A:Int) := by omega
            have hX0 : (0:Int) ≤ (X:Int) := by omega
            have HXP := Lib.hid (show X < 2 ^ n by rw [HA.out]; exact hXA)
            obtain ⟨S, hS⟩ : ∃ S, lcS X n = S := ⟨_, rfl⟩
            have HS := Lib.hid hS
            clear hS
            go_wp2_with fail
            refine (HC.out.bits X _ HXP.out).mono ?_
            rintro e w1 ⟨rfl, hb⟩
            have HM1 := Lib.hid (HM.out.ret hb)
            rw [HS.out]
            clear hb HM
            go_wp2_with fail
            have hc := HC.out.f0 X w1 HXP.out
            rw [HS.out, HF.out] at hc
            refine hc.mono ?_
            rintro e w2 ⟨rfl, hb⟩
            have HM2 := Lib.hid (HM1.out.ret hb)
            clear hb hc HM1
            go_wp2_with fail
            have hc := HC.out.f1 X w2 HXP.out
            rw [HS.out, HF.out] at hc
            refine hc.mono ?_
            rintro e w3 ⟨ar, cr, rfl, hb⟩
            have HM3 := Lib.hid (HM2.out.ret hb)
            clear hb hc HM2
            go_wp2_with fail
            have hc := HC.out.f2 X w3 HXP.out
            rw [HS.out, HF.out] at hc
            refine hc.mono ?_
            rintro e w4 ⟨rfl, hb⟩
            have HM4 := Lib.hid (HM3.out.ret hb)
            clear hb hc HM3
            go_wp2_with fail
            have hc := HC.out.f3 X w4 HXP.out
            rw [HS.out, HF.out] at hc
            refine hc.mono ?_
            rintro e w5 ⟨rfl, hb⟩
            have HM5 := Lib.hid (show OwM w8 w5 (mtO g 4 (n + 1) gs (lcM f X 0) ++ []) from (HM4.out.ret hb).congr fun k v _ _ => (lcM_zero f X k v).symm)
            clear hb hc HM4
            have hf0 := HFB.out 0 X (by omega) hXA
            have hf1 := HFB.out 1 X (by omega) hXA
            have hf2 := HFB.out 2 X (by omega) hXA
            have hf3 := HFB.out 3 X (by omega) hXA
            obtain ⟨p0, p1, p2⟩ := HM5.out.rd (k := 0) (v := f 0 X) (by omega) (by omega)
            rw [lcM_at] at p1
            have hz : cnF (f 0) X (f 0 X) ≤ 512 := Nat.le_trans (cnF_le _ _ _) (by omega)
            have HN6 := Lib.hid (show OwM w8 (w5.setCell ⟨gs.getD 0 0, f 0 X, none⟩ (.int .i64 (((cnF (f 0) X (f 0 X) : Nat) : Int) + 1))) (mtO g 4 (n + 1) gs (lcM f X 1) ++ []) from
              (HM5.out.put (k := 0) (v := f 0 X) (by omega) _).congr fun k v _ _ => by have := lcM_step f X 0 k v; rw [lcM_at] at this; exact this)
            obtain ⟨z0, hz0⟩ : ∃ z, cnF (f 0) X (f 0 X) = z := ⟨_, rfl⟩
            rw [hz0] at p1 hz HN6
            obtain ⟨y0, hy0⟩ : ∃ y, f 0 X = y := ⟨_, rfl⟩
            rw [hy0] at p1 p2 HN6 hf0 ⊢
            obtain ⟨x0, hx0⟩ : ∃ x, gs.getD 0 0 = x := ⟨_, rfl⟩
            rw [hx0] at p0 p1 p2 HN6
            have hya : (0:Int) ≤ (y0:Int) := by omega
            have hyb : (y0:Int) < (n:Int) + 1 := by omega
            have hyw : IntKind.i64.wrap ((z0 : Int) + 1) = (z0 : Int) + 1 := IntWalk.i64_in _ (by omega)
            clear hz0 hy0 hx0 HM5
            go_upto_region 27 with fail
            obtain ⟨wk1, hwk⟩ : ∃ w', w5.setCell ⟨x0, y0, none⟩ (.int .i64 ((z0 : Int) + 1)) = w' := ⟨_, rfl⟩
            rw [hwk] at HN6
            rw [hwk]
            have HM6 := HN6
            clear hwk HN6 p0 p1 p2 hya hyb hyw hz
            obtain ⟨p0, p1, p2⟩ := HM6.out.rd (k := 1) (v := f 1 X) (by omega) (by omega)
            rw [lcM_at] at p1
            have hz : cnF (f 1) X (f 1 X) ≤ 512 := Nat.le_trans (cnF_le _ _ _) (by omega)
            have HN7 := Lib.hid (show OwM w8 (wk1.setCell ⟨gs.getD 1 0, f 1 X, none⟩ (.int .i64 (((cnF (f 1) X (f 1 X) : Nat) : Int) + 1))) (mtO g 4 (n + 1) gs (lcM f X 2) ++ []) from
              (HM6.out.put (k := 1) (v := f 1 X) (by omega) _).congr fun k v _ _ => by have := lcM_step f X 1 k v; rw [lcM_at] at this; exact this)
            obtain ⟨z1, hz1⟩ : ∃ z, cnF (f 1) X (f 1 X) = z := ⟨_, rfl⟩
            rw [hz1] at p1 hz HN7
            obtain ⟨y1, hy1⟩ : ∃ y, f 1 X = y := ⟨_, rfl⟩
            rw [hy1] at p1 p2 HN7 hf1 ⊢
            obtain ⟨x1, hx1⟩ : ∃ x, gs.getD 1 0 = x := ⟨_, rfl⟩
            rw [hx1] at p0 p1 p2 HN7
            have hya : (0:Int) ≤ (y1:Int) := by omega
            have hyb : (y1:Int) < (n:Int) + 1 := by omega
            have hyw : IntKind.i64.wrap ((z1 : Int) + 1) = (z1 : Int) + 1 := IntWalk.i64_in _ (by omega)
            clear hz1 hy1 hx1 HM6
            go_upto_region 28 with fail
            obtain ⟨wk2, hwk⟩ : ∃ w', wk1.setCell ⟨x1, y1, none⟩ (.int .i64 ((z1 : Int) + 1)) = w' := ⟨_, rfl⟩
            rw [hwk] at HN7
            rw [hwk]
            have HM7 := HN7
            clear hwk HN7 p0 p1 p2 hya hyb hyw hz
            obtain ⟨p0, p1, p2⟩ := HM7.out.rd (k := 2) (v := f 2 X) (by omega) (by omega)
            rw [lcM_at] at p1
            have hz : cnF (f 2) X (f 2 X) ≤ 512 := Nat.le_trans (cnF_le _ _ _) (by omega)
            have HN8 := Lib.hid (show OwM w8 (wk2.setCell ⟨gs.getD 2 0, f 2 X, none⟩ (.int .i64 (((cnF (f 2) X (f 2 X) : Nat) : Int) + 1))) (mtO g 4 (n + 1) gs (lcM f X 3) ++ []) from
              (HM7.out.put (k := 2) (v := f 2 X) (by omega) _).congr fun k v _ _ => by have := lcM_step f X 2 k v; rw [lcM_at] at this; exact this)
            obtain ⟨z2, hz2⟩ : ∃ z, cnF (f 2) X (f 2 X) = z := ⟨_, rfl⟩
            rw [hz2] at p1 hz HN8
            obtain ⟨y2, hy2⟩ : ∃ y, f 2 X = y := ⟨_, rfl⟩
            rw [hy2] at p1 p2 HN8 hf2 ⊢
            obtain ⟨x2, hx2⟩ : ∃ x, gs.getD 2 0 = x := ⟨_, rfl⟩
            rw [hx2] at p0 p1 p2 HN8
            have hya : (0:Int) ≤ (y2:Int) := by omega
            have hyb : (y2:Int) < (n:Int) + 1 := by omega
            have hyw : IntKind.i64.wrap ((z2 : Int) + 1) = (z2 : Int) + 1 := IntWalk.i64_in _ (by omega)
            clear hz2 hy2 hx2 HM7
            go_upto_region 29 with fail
            obtain ⟨wk3, hwk⟩ : ∃ w', wk2.setCell ⟨x2, y2, none⟩ (.int .i64 ((z2 : Int) + 1)) = w' := ⟨_, rfl⟩
            rw [hwk] at HN8
            rw [hwk]
            have HM8 := HN8
            clear hwk HN8 p0 p1 p2 hya hyb hyw hz
            obtain ⟨p0, p1, p2⟩ := HM8.out.rd (k := 3) (v := f 3 X) (by omega) (by omega)
            rw [lcM_at] at p1
            have hz : cnF (f 3) X (f 3 X) ≤ 512 := Nat.le_trans (cnF_le _ _ _) (by omega)
            have HN9 := Lib.hid (show OwM w8 (wk3.setCell ⟨gs.getD 3 0, f 3 X, none⟩ (.int .i64 (((cnF (f 3) X (f 3 X) : Nat) : Int) + 1))) (mtO g 4 (n + 1) gs (lcM f X 4) ++ []) from
              (HM8.out.put (k := 3) (v := f 3 X) (by omega) _).congr fun k v _ _ => by have := lcM_step f X 3 k v; rw [lcM_at] at this; exact this)
            obtain ⟨z3, hz3⟩ : ∃ z, cnF (f 3) X (f 3 X) = z := ⟨_, rfl⟩
            rw [hz3] at p1 hz HN9
            obtain ⟨y3, hy3⟩ : ∃ y, f 3 X = y := ⟨_, rfl⟩
            rw [hy3] at p1 p2 HN9 hf3 ⊢
            obtain ⟨x3, hx3⟩ : ∃ x, gs.getD 3 0 = x := ⟨_, rfl⟩
            rw [hx3] at p0 p1 p2 HN9
            have hya : (0:Int) ≤ (y3:Int) := by omega
            have hyb : (y3:Int) < (n:Int) + 1 := by omega
            have hyw : IntKind.i64.wrap ((z3 : Int) + 1) = (z3 : Int) + 1 := IntWalk.i64_in _ (by omega)
            clear hz3 hy3 hx3 HM8
            go_wp2_with fail
            go_roundw
            case rel => exact ⟨X + 1, by omega, by go_num, Lib.hid (HN9.out.congr fun k v hk _ => lcM_four f X k v (by omega))⟩
            case measure => simp [intOf]; omega
          · obtain rfl : X = A := by omega
            have hXi : ¬ (X:Int) < (X:Int) := by omega
            have hni1 : (0 : Int) ≤ (n : Int) := by omega
            go_wp2_with fail
            go_loopw [28] (fun i wy => ∃ v : Nat, v ≤ n + 1 ∧ i = .int .i64 (v : Nat) ∧ Hid (OwM w8 wy (mtO g 4 (n + 1) gs (fun k v => ((cnF (f k) X v : Nat) : Int)) ++ []))) (fun i _ => n + 2 - (intOf i).toNat)
            case atStart => exact ⟨0, Nat.zero_le _, rfl, HM⟩
            case round =>
              clear HM
              obtain ⟨v, hv, rfl, HM⟩ := hrel
              by_cases hvj : v ≤ n
              · have hvi : (v:Int) ≤ (n:Int) := by omega
                have hv0 : (0:Int) ≤ (v:Int) := by omega
                have hv1 : (v:Int) < (n:Int) + 1 := by omega
                have HMK := Lib.hid (show ∀ k, k < 4 → ∀ w, Calls Tryz.prog 18 #[.int .i64 (cnF (f k) X v : Nat), .int .i64 (X : Nat)] w fun e w' => e = .returned (.tuple #[.agg #[.int .i64 (Pq k v), .int .i64 (Qq k v)], .bool true]) ∧ Below w.heap.size w w' from by
                  have hcn : ∀ k, k < 4 → cnF (f k) X v = lcC P n k v := fun k hk => by rw [← HF.out, ← HA.out]; exact HC.out.cn k v hk hvj
                  intro k hk w
                  rw [hcn k hk, ← HA.out]
                  match k, hk with
                  | 0, _ => exact HC.out.k0.make v w hvj
                  | 1, _ => exact HC.out.k1.make v w hvj
                  | 2, _ => exact HC.out.k2.make v w hvj
                  | 3, _ => exact HC.out.k3.make v w hvj)
                have HCH0 := Lib.hid (fun w a1 a2 c1 c2 => HC.out.k0.chance v w a1 a2 c1 c2 hvj)
                obtain ⟨p0, hp⟩ : ∃ p, Pq 0 v = p := ⟨_, rfl⟩
                obtain ⟨q0, hq⟩ : ∃ q, Qq 0 v = q := ⟨_, rfl⟩
                rw [hp, hq] at HCH0
                have HE0 := Lib.hid (And.intro hp hq)
                clear hp hq
                have HCH1 := Lib.hid (fun w a1 a2 c1 c2 => HC.out.k1.chance v w a1 a2 c1 c2 hvj)
                obtain ⟨p1, hp⟩ : ∃ p, Pq 1 v = p := ⟨_, rfl⟩
                obtain ⟨q1, hq⟩ : ∃ q, Qq 1 v = q := ⟨_, rfl⟩
                rw [hp, hq] at HCH1
                have HE1 := Lib.hid (And.intro hp hq)
                clear hp hq
                have HCH2 := Lib.hid (fun w a1 a2 c1 c2 => HC.out.k2.chance v w a1 a2 c1 c2 hvj)
                obtain ⟨p2, hp⟩ : ∃ p, Pq 2 v = p := ⟨_, rfl⟩
                obtain ⟨q2, hq⟩ : ∃ q, Qq 2 v = q := ⟨_, rfl⟩
                rw [hp, hq] at HCH2
                have HE2 := Lib.hid (And.intro hp hq)
                clear hp hq
                have HCH3 := Lib.hid (fun w a1 a2 c1 c2 => HC.out.k3.chance v w a1 a2 c1 c2 hvj)
                obtain ⟨p3, hp⟩ : ∃ p, Pq 3 v = p := ⟨_, rfl⟩
                obtain ⟨q3, hq⟩ : ∃ q, Qq 3 v = q := ⟨_, rfl⟩
                rw [hp, hq] at HCH3
                have HE3 := Lib.hid (And.intro hp hq)
                clear hp hq
                have HL := Lib.hid (And.intro (H8.out.1.all HM.out.2) (And.intro (H8.out.2.1.all HM.out.2) (And.intro (H8.out.2.2.1.all HM.out.2) (H8.out.2.2.2.all HM.out.2))))
                obtain ⟨x0, x1, x2, x3, x4⟩ := HL.out.1.bx
                go_wp2_with fail
                refine (HCH0.out _ _ _ _ _ HL.out.1.val HL.out.1.cha).mono ?_
                rintro e u0 ⟨rfl, hb⟩
                clear x0 x1 x2 x3 x4
                obtain ⟨x0, x1, x2, x3, x4⟩ := (HL.out.2.1.all hb).bx
                have hbb := bthen hb (al_bel u0 (.cells #[.int .i64 p0, .int .i64 q0] 44))
                have HMn := Lib.hid (HM.out.ret hbb)
                have HLn := Lib.hid (And.intro (HL.out.1.all hbb) (And.intro (HL.out.2.1.all hbb) (And.intro (HL.out.2.2.1.all hbb) (HL.out.2.2.2.all hbb))))
                have HFn0 := Lib.hid (C2.new u0 44 (.int .i64 p0) (.int .i64 q0))
                clear hb hbb HM HL
                go_wp2_with fail
                obtain ⟨e0, he⟩ : ∃ b, u0.heap.size = b := ⟨_, rfl⟩
                obtain ⟨ux0, hux⟩ : ∃ w', u0.alloc (.cells #[.int .i64 p0, .int .i64 q0] 44) = w' := ⟨_, rfl⟩
                rw [hux] at HMn HLn HFn0
                rw [he] at HFn0
                rw [hux]
                try rw [he]
                clear hux he
                have HM := HMn
                have HL := HLn
                have HF0 := HFn0
                clear HMn HLn HFn0
                refine (HCH1.out _ _ _ _ _ HL.out.2.1.val HL.out.2.1.cha).mono ?_
                rintro e u1 ⟨rfl, hb⟩
                clear x0 x1 x2 x3 x4
                obtain ⟨x0, x1, x2, x3, x4⟩ := (HL.out.2.2.1.all hb).bx
                have hbb := bthen hb (al_bel u1 (.cells #[.int .i64 p1, .int .i64 q1] 44))
                have HMn := Lib.hid (HM.out.ret hbb)
                have HLn := Lib.hid (And.intro (HL.out.1.all hbb) (And.intro (HL.out.2.1.all hbb) (And.intro (HL.out.2.2.1.all hbb) (HL.out.2.2.2.all hbb))))
                have HFn0 := Lib.hid (HF0.out.all hbb)
                have HFn1 := Lib.hid (C2.new u1 44 (.int .i64 p1) (.int .i64 q1))
                clear hb hbb HM HL HF0
                go_wp2_with fail
                obtain ⟨e1, he⟩ : ∃ b, u1.heap.size = b := ⟨_, rfl⟩
                obtain ⟨ux1, hux⟩ : ∃ w', u1.alloc (.cells #[.int .i64 p1, .int .i64 q1] 44) = w' := ⟨_, rfl⟩
                rw [hux] at HMn HLn HFn0 HFn1
                rw [he] at HFn1
                rw [hux]
                try rw [he]
                clear hux he
                have HM := HMn
                have HL := HLn
                have HF0 := HFn0
                have HF1 := HFn1
                clear HMn HLn HFn0 HFn1
                refine (HCH2.out _ _ _ _ _ HL.out.2.2.1.val HL.out.2.2.1.cha).mono ?_
                rintro e u2 ⟨rfl, hb⟩
                clear x0 x1 x2 x3 x4
                obtain ⟨x0, x1, x2, x3, x4⟩ := (HL.out.2.2.2.all hb).bx
                have hbb := bthen hb (al_bel u2 (.cells #[.int .i64 p2, .int .i64 q2] 44))
                have HMn := Lib.hid (HM.out.ret hbb)
                have HLn := Lib.hid (And.intro (HL.out.1.all hbb) (And.intro (HL.out.2.1.all hbb) (And.intro (HL.out.2.2.1.all hbb) (HL.out.2.2.2.all hbb))))
                have HFn0 := Lib.hid (HF0.out.all hbb)
                have HFn1 := Lib.hid (HF1.out.all hbb)
                have HFn2 := Lib.hid (C2.new u2 44 (.int .i64 p2) (.int .i64 q2))
                clear hb hbb HM HL HF0 HF1
                go_wp2_with fail
                obtain ⟨e2, he⟩ : ∃ b, u2.heap.size = b := ⟨_, rfl⟩
                obtain ⟨ux2, hux⟩ : ∃ w', u2.alloc (.cells #[.int .i64 p2, .int .i64 q2] 44) = w' := ⟨_, rfl⟩
                rw [hux] at HMn HLn HFn0 HFn1 HFn2
                rw [he] at HFn2
                rw [hux]
                try rw [he]
                clear hux he
                have HM := HMn
                have HL := HLn
                have HF0 := HFn0
                have HF1 := HFn1
                have HF2 := HFn2
                clear HMn HLn HFn0 HFn1 HFn2
                refine (HCH3.out _ _ _ _ _ HL.out.2.2.2.val HL.out.2.2.2.cha).mono ?_
                rintro e u3 ⟨rfl, hb⟩
                clear x0 x1 x2 x3 x4
                have hbb := bthen hb (al_bel u3 (.cells #[.int .i64 p3, .int .i64 q3] 44))
                have HMn := Lib.hid (HM.out.ret hbb)
                have HLn := Lib.hid (And.intro (HL.out.1.all hbb) (And.intro (HL.out.2.1.all hbb) (And.intro (HL.out.2.2.1.all hbb) (HL.out.2.2.2.all hbb))))
                have HFn0 := Lib.hid (HF0.out.all hbb)
                have HFn1 := Lib.hid (HF1.out.all hbb)
                have HFn2 := Lib.hid (HF2.out.all hbb)
                have HFn3 := Lib.hid (C2.new u3 44 (.int .i64 p3) (.int .i64 q3))
                clear hb hbb HM HL HF0 HF1 HF2
                obtain ⟨e3, he⟩ : ∃ b, u3.heap.size = b := ⟨_, rfl⟩
                obtain ⟨ux3, hux⟩ : ∃ w', u3.alloc (.cells #[.int .i64 p3, .int .i64 q3] 44) = w' := ⟨_, rfl⟩
                rw [hux] at HMn HLn HFn0 HFn1 HFn2 HFn3
                rw [he] at HFn3
                have HW := Lib.hid (And.intro hux he)
                clear hux he
                have HM := HMn
                have HL := HLn
                have HF0 := HFn0
                have HF1 := HFn1
                have HF2 := HFn2
                have HF3 := HFn3
                clear HMn HLn HFn0 HFn1 HFn2 HFn3
                go_upto_region 39 with fail
                rw [HW.out.1]
                try rw [HW.out.2]
                obtain ⟨x0, x1, x2, x3, x4⟩ := HF0.out
                obtain ⟨y0, y1, y2, y3, y4⟩ := HF1.out
                obtain ⟨z0, z1, z2, z3, z4⟩ := HF2.out
                obtain ⟨v0, v1, v2, v3, v4⟩ := HF3.out
                go_wp2_with (refine wpList_buildSlice rfl 27 44 4 _ rfl #[.int .i64 p0, .int .i64 q0, .int .i64 p1, .int .i64 q1, .int .i64 p2, .int .i64 q2, .int .i64 p3, .int .i64 q3] i2 (.agg #[.int .i64 0, .int .i64 0]) Tryz.underlying27 hlf hlf0 (by rw [hlf1]; decide) (by rw [hlf1]; decide) (by rw [hlf1]; exact fill4 p0 q0 p1 q1 p2 q2 p3 q3) ?_)
                have HR := Lib.hid (show R4 (ux3.alloc (.cells #[.int .i64 p0, .int .i64 q0, .int .i64 p1, .int .i64 q1, .int .i64 p2, .int .i64 q2, .int .i64 p3, .int .i64 q3] 44)) ux3.heap.size (fun k => Pq k v) (fun k => Qq k v) from by
                  rw [← HE0.out.1, ← HE0.out.2, ← HE1.out.1, ← HE1.out.2, ← HE2.out.1, ← HE2.out.2, ← HE3.out.1, ← HE3.out.2]
                  exact R4.new ux3 44 (fun k => Pq k v) (fun k => Qq k v))
                have HMq := Lib.hid (HM.out.ret (al_bel ux3 (.cells #[.int .i64 p0, .int .i64 q0, .int .i64 p1, .int .i64 q1, .int .i64 p2, .int .i64 q2, .int .i64 p3, .int .i64 q3] 44)))
                obtain ⟨br, hbr⟩ : ∃ b, ux3.heap.size = b := ⟨_, rfl⟩
                obtain ⟨uy, huy⟩ : ∃ w', ux3.alloc (.cells #[.int .i64 p0, .int .i64 q0, .int .i64 p1, .int .i64 q1, .int .i64 p2, .int .i64 q2, .int .i64 p3, .int .i64 q3] 44) = w' := ⟨_, rfl⟩
                rw [huy, hbr] at HR
                rw [huy] at HMq
                rw [huy, hbr]
                have HMR0 := Lib.hid (And.intro HMq.out HR.out)
                clear huy hbr HMq HR HM HL HF0 HF1 HF2 HF3 HW x0 x1 x2 x3 x4 y0 y1 y2 y3 y4 z0 z1 z2 z3 z4 v0 v1 v2 v3 v4 HCH0 HCH1 HCH2 HCH3 HE0 HE1 HE2 HE3
                go_loopw [38] (fun i wz => ∃ m : Nat, m ≤ 4 ∧ i = .int .i64 (m : Nat) ∧ Hid (OwM w8 wz (mtO g 4 (n + 1) gs (fun k v => ((cnF (f k) X v : Nat) : Int)) ++ []) ∧ R4 wz br (fun k => Pq k v) (fun k => Qq k v))) (fun i _ => 4 - (intOf i).toNat)
                case atStart => exact ⟨0, Nat.zero_le _, rfl, HMR0⟩
                case round =>
                  clear HMR0
                  obtain ⟨m, hm4, rfl, HMR⟩ := hrel
                  by_cases hlt : m < 4
                  · have hmi : (m:Int) < 4 := by omega
                    have hm0 : (0:Int) ≤ (m:Int) := by omega
                    obtain ⟨r0, r1, r2⟩ := HMR.out.1.rd (k := m) (v := v) (by omega) (by omega)
                    have hmk := HMK.out m hlt
                    obtain ⟨z, hz⟩ : ∃ z, cnF (f m) X v = z := ⟨_, rfl⟩
                    obtain ⟨xg, hxg⟩ : ∃ x, gs.getD m 0 = x := ⟨_, rfl⟩
                    obtain ⟨pm, hpm⟩ : ∃ x, Pq m v = x := ⟨_, rfl⟩
                    obtain ⟨qm, hqm⟩ : ∃ x, Qq m v = x := ⟨_, rfl⟩
                    rw [hz] at r1 hmk
                    rw [hxg] at r0 r1
                    rw [hpm, hqm] at hmk
                    have HMC := Lib.hid hmk
                    have HPQ := Lib.hid (And.intro hpm hqm)
                    clear hz hxg r2 hmk hpm hqm
                    go_wp2_with fail
                    refine (HMC.out _).mono ?_
                    rintro e w6 ⟨rfl, hb⟩
                    have hbb := bthen hb (al_bel w6 (.cells #[.int .i64 pm, .int .i64 qm] 44))
                    have HQ := Lib.hid (And.intro (HMR.out.1.ret hbb) (And.intro (HMR.out.2.all hbb) (C2.new w6 44 (.int .i64 pm) (.int .i64 qm))))
                    clear hb hbb r0 r1 HMR
                    obtain ⟨bm, hbm⟩ : ∃ b, w6.heap.size = b := ⟨_, rfl⟩
                    obtain ⟨w7, hw7⟩ : ∃ w', w6.alloc (.cells #[.int .i64 pm, .int .i64 qm] 44) = w' := ⟨_, rfl⟩
                    rw [hw7, hbm] at HQ
                    obtain ⟨y0, y1, y2, y3, y4⟩ := HQ.out.2.2
                    have s0 := HQ.out.2.1.c0 m hlt
                    have s1 := HQ.out.2.1.c1 m hlt
                    simp only [HPQ.out.1, HPQ.out.2] at s0 s1
                    have HW := Lib.hid (And.intro hw7 hbm)
                    clear hw7 hbm
                    go_upto_region 44 with fail
                    rw [HW.out.1]
                    try rw [HW.out.2]
                    go_region
                    all_goals
                      go_wp2_with fail
                      go_roundw
                      case rel => exact ⟨m + 1, by omega, by go_num, Lib.hid ⟨by first | exact HQ.out.1 | exact HQ.out.1.ret (drewN_below _ _) | exact HQ.out.1.ret (Below.refl _ _).drew, by first | exact HQ.out.2.1 | exact HQ.out.2.1.all (drewN_below _ _) | exact HQ.out.2.1.all (Below.refl _ _).drew⟩⟩
                      case measure => simp [intOf]; omega
                  · have hmi : ¬ (m:Int) < 4 := by omega
                    go_wp2_with fail
                    go_roundw
                    case rel => exact ⟨v + 1, by omega, by go_num, Lib.hid HMR.out.1⟩
                    case measure => simp [intOf]; omega
              · have hvi : ¬ (v:Int) ≤ (n:Int) := by omega
                go_wp2_with fail
                go_ret
                exact ⟨rfl, bthen H8.out.1.bel HM.out.2⟩
end Go.Proofs.YtlckamnadddlmaaGreatDoor

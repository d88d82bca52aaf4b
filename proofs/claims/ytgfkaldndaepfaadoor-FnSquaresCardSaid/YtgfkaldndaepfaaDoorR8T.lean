import Derived.Test.YtgfkaldndaepfaaDoorDraws
import Derived.Test.YtgfkaldndaepfaaDoorLawP
/- The tables that the laws draw: each is a table of at most four inputs. Condition: the bytes drawn from are few. -/
namespace Go.Proofs.YtgfkaldndaepfaaDoor
open Go.RowKit
set_option linter.unusedVariables false

theorem isB_nums {xs : List Int} (h : ∀ x ∈ xs, x = 48 ∨ x = 49) (hl : xs.length ≤ 400) : isB (strOfNums xs) = true := by
  unfold isB
  rw [Bool.and_eq_true]
  refine ⟨decide_eq_true (by rw [strOfNums_size]; exact hl), ?_⟩
  unfold all01
  rw [strOfNums_data, List.all_eq_true]
  intro b hb
  obtain ⟨x, hx, rfl⟩ := List.mem_map.1 hb
  rcases h x hx with rfl | rfl <;> rfl
theorem srcOne_any (i : Nat) (n : Int) (b : Nat) (a : Option Addr) (len cap t : Nat) (zs : List Int) (w0 w : World) (l : List (Nat × (Obj → Prop))) (h : OwnAt w0 w l) (hi : l[i]? = some (b, srcO a len cap t)) (hx : IsU8s w0 a len zs) (ht : t < 900000000) (hl : len < 1000000000) (hn : n ≤ 1000000000000000000) :
    Calls Tryd.prog 32 #[.pointer (some ⟨b, 0, none⟩), .int .i64 n] w fun e w' => ∃ c t', e = .returned (.bool c) ∧ t ≤ t' ∧ t' ≤ t + 2 ∧ OwnAt w0 w' (l.set i (b, srcO a len cap t')) := by
  have H := Lib.hid (srcPick_any i n b a len cap t zs w0 w l h hi hx ht hl hn)
  clear h hi hx
  go_enter Tryd.func32, Tryd.ntmps32
  go_wp2_with fail
  refine H.out.mono ?_
  rintro e w1 ⟨x, t', rfl, hx0, hx1, ht0, ht1, h1⟩
  have H1 := Lib.hid h1
  clear h1 hx1
  go_wp2_with fail
  go_ret
  exact ⟨_, t', rfl, ht0, ht1, H1.out⟩
theorem rowO_empty (e : TypeId) : rowO e 0 [] (.cells #[] e) := ⟨#[], rfl, rfl, Nat.le_refl _, by simp [maxLen], rfl⟩
def oneMore (xs : List Int) : Prop := ∀ x ∈ xs, x = 48 ∨ x = 49
theorem oneMore_push {xs : List Int} (h : oneMore xs) {b : Int} (hb : b = 0 ∨ b = 1) : oneMore (xs ++ [48 + b]) := by
  intro x hx
  rcases List.mem_append.1 hx with hx | hx
  · exact h x hx
  · rw [List.mem_singleton] at hx; omega
def RetTab (w0 : World) (n : Nat) (e : Ending) (w' : World) : Prop := ∃ xs, e = .returned (.string (strOfNums xs)) ∧ xs.length = 2 ^ n ∧ oneMore xs ∧ Below w0.heap.size w0 w'
/-- What stands at a round's end: the bytes so far and the source. -/
def DsI (w0 wr : World) (gs cs : Nat) (xs : List Int) (B : Nat) (a : Option Addr) (len cap t : Nat) : Prop := OwnAt w0 wr [(gs, rowO 5 cs (xs.map (Value.int .u8))), (B, srcO a len cap t)]
theorem DsI.row {w0 wr : World} {gs cs : Nat} {xs : List Int} {B : Nat} {a : Option Addr} {len cap t : Nat} (h : DsI w0 wr gs cs xs B a len cap t) : wr.ownsRow w0.heap.size 5 1 (.slice (some ⟨gs, 0, none⟩) xs.length cs) xs.length (xs.map (Value.int .u8)) := by
  have := (h.1.rowAt 0 rfl).1
  rwa [List.length_map] at this
theorem DsI.push {w0 wr w6 : World} {gs cs : Nat} {xs : List Int} {B : Nat} {a : Option Addr} {len cap t : Nat} {o : Obj} {z : Int} {v' : Value} (h : DsI w0 wr gs cs xs B a len cap t)
    (hown : w6.ownsRow w0.heap.size 5 1 v' (xs.length + 1) (xs.map (Value.int .u8) ++ [.int .u8 z])) (hgrow : (wr.alloc o).grownBy w6 (Value.ownBlock (.slice (some ⟨gs, 0, none⟩) xs.length cs))) (hat : v'.ownBlock = Value.ownBlock (.slice (some ⟨gs, 0, none⟩) xs.length cs) ∨ v'.ownBlock = some (wr.heap.size + 1)) :
    ∃ g2 c2, v' = .slice (some ⟨g2, 0, none⟩) (xs.length + 1) c2 ∧ DsI w0 w6 g2 c2 (xs ++ [z]) B a len cap t := by
  obtain ⟨g2, c2, rfl, O2⟩ := (h.1.alloc o).ap 0 rfl hown hgrow (by rw [alloc_size]; exact hat)
  refine ⟨g2, c2, rfl, ?_, ?_⟩
  · simpa using O2
  · exact (h.2.alloc h.2.size o).grown hgrow (by have := h.2.size; simp only [alloc_size]; omega) (fun j hj => by
      have := (h.1.lt (List.mem_of_getElem? (i := 0) rfl)).1
      simp [Value.ownBlock] at hj; simp at this; omega)
set_option maxRecDepth 20000 in
set_option maxHeartbeats 3200000 in
theorem l04DrawSized_any (n : Nat) (B : Nat) (a : Option Addr) (len cap t : Nat) (bs : List Int) (w0 w : World) (h : OwnAt w0 w [(B, srcO a len cap t)]) (hx : IsU8s w0 a len bs) (ht : t ≤ 100) (hl : len < 1000000) (hn : n ≤ 4) :
    Calls Tryd.prog 19 #[.pointer (some ⟨B, 0, none⟩), .int .i64 (n : Nat)] w (RetTab w0 n) := by
  have h1 : DsI w0 (w.alloc (.cells #[] 5)) w.heap.size 0 [] B a len cap t := h.new (rowO_empty 5)
  have hN : ∀ n, n ≤ 4 → 2 ^ n ≤ 16 := by decide
  have hpw0 := pow_wrap n (by omega)
  have hcast : ((2 ^ n : Nat) : Int) = (2 : Int) ^ n := by simp
  have hN' := hN n hn
  rw [← hcast] at hpw0
  obtain ⟨N, hNe⟩ : ∃ N, 2 ^ n = N := ⟨_, rfl⟩
  have hpw : wrap64 ((2 : Int) ^ n) = (N : Int) := by rw [← hcast, hpw0, hNe]
  rw [hNe] at hN'
  have hNN : RetTab w0 n = fun e w' => ∃ xs, e = .returned (.string (strOfNums xs)) ∧ xs.length = N ∧ oneMore xs ∧ Below w0.heap.size w0 w' := by rw [← hNe]; rfl
  have HRT := Lib.hid hNN
  rw [HRT.out]
  have H1 := Lib.hid h1
  have HX := Lib.hid hx
  have hn0 : (0 : Int) ≤ (n : Int) := by omega
  have hn4 : (n : Int) ≤ 4 := by omega
  clear h h1 hx hN hpw0 hcast hNe hNN HRT
  go_enter Tryd.func19, Tryd.ntmps19
  go_wp2_with fail
  refine (srcPick_any 1 3 B a len cap t bs w0 _ _ H1.out rfl HX.out (by omega) (by omega) (by omega)).mono ?_
  rintro e w2 ⟨kd, t2, rfl, hk0, hk1, ht0, ht1, h2⟩
  have H2 : Hid (DsI w0 w2 w.heap.size 0 [] B a len cap t2) := Lib.hid h2
  clear h2
  go_wp2_with fail
  refine (srcPick_any 1 (N : Int) B a len cap t2 bs w0 _ _ H2.out rfl HX.out (by omega) (by omega) (by omega)).mono ?_
  rintro e w3 ⟨av, t3, rfl, ha0, ha1, ht2, ht3, h3⟩
  have H3 : Hid (DsI w0 w3 w.heap.size 0 [] B a len cap t3) := Lib.hid h3
  obtain ⟨A, rfl⟩ := Int.eq_ofNat_of_zero_le ha0
  have hA : A < 16 := by omega
  clear h3 ha1 H1 H2
  go_wp2
  go_loopw [8, 5] (fun x v wr => ∃ (m gs cs t' : Nat) (xs : List Int), m ≤ N ∧ x = .int .i64 (m : Nat) ∧ v = .slice (some ⟨gs, 0, none⟩) m cs ∧ Hid (xs.length = m ∧ oneMore xs) ∧ t' ≤ 120 + 4 * m ∧ Hid (DsI w0 wr gs cs xs B a len cap t')) (fun x _ _ => N - (intOf x).toNat)
  case atStart => exact ⟨0, w.heap.size, 0, t3, [], Nat.zero_le _, rfl, rfl, Lib.hid ⟨rfl, fun x hx => by cases hx⟩, by omega, H3⟩
  case round =>
    clear H3
    obtain ⟨m, gs, cs, t', xs, hm, rfl, rfl, HXS, htm, HD⟩ := hrel
    by_cases hlt : m < N
    · have hm0 : (0:Int) ≤ (m:Int) := by omega
      have hmi : (m:Int) < (N:Int) := by omega
      have hand : bits .and .i64 (A : Int) (m : Int) = ((A &&& m : Nat) : Int) := and_i64 A m (by omega) (by omega)
      have hq : A &&& m < 16 := Nat.lt_of_le_of_lt Nat.and_le_left hA
      obtain ⟨q, hqe⟩ : ∃ q, A &&& m = q := ⟨_, rfl⟩
      rw [hqe] at hand hq
      clear hqe
      have HP := Lib.hid (fun w => l02ParityT_any q w (by omega))
      obtain ⟨p0, hp0⟩ : ∃ p0 : Int, (if par6 q then 1 else 0) = p0 := ⟨_, rfl⟩
      have hp01 : p0 = 0 ∨ p0 = 1 := by rw [← hp0]; split <;> omega
      rw [hp0] at HP
      clear hp0
      -- what is appended
      have fin : ∀ (bit : Int) (wx : World) (t5 : Nat), (bit = 0 ∨ bit = 1) → t5 ≤ 120 + 4 * m + 4 → Hid (DsI w0 wx gs cs xs B a len cap t5) → True := fun _ _ _ _ _ _ => trivial
      clear fin
      by_cases h0 : kd = 0
      · subst h0
        go_wp2_with fail
        refine (HP.out _).mono ?_
        rintro e w' ⟨rfl, rfl⟩
        go_wp2_with fail
        refine (srcPick_any 1 2 B a len cap t' bs w0 _ _ HD.out rfl HX.out (by omega) (by omega) (by omega)).mono ?_
        rintro e w5 ⟨bit, t5, rfl, hb0, hb1, ht4, ht5, h5⟩
        have hbit : bit = 0 ∨ bit = 1 := by omega
        have H5 : Hid (DsI w0 w5 gs cs xs B a len cap t5) := Lib.hid h5
        have Hrow := Lib.hid (H5.out.row.alloc (.cells #[.int .u8 (48 + bit)] 5))
        rw [HXS.out.1] at Hrow
        have hsz := H5.out.2.size
        clear h5 hb1
        go_wp2_with (at_builtin; refine wpList_ap1 rfl (.tmp 41) (.tmp 45) 22 rfl w0.heap.size 5 (.int .u8 0) 1 Tryd.underlying22 Tryd.infoB8 rfl _ m _ rfl Hrow.out w5.heap.size (.int .u8 (48 + bit)) rfl (by go_simp) rfl (by omega) (by omega) (by simp only [alloc_size]; omega) ?_)
        intro v' w6 hown hgrow hat
        obtain ⟨g2, c2, rfl, O2⟩ := H5.out.push (by rw [HXS.out.1]; exact hown) (by rw [HXS.out.1]; exact hgrow) (by rw [HXS.out.1]; exact hat)
        rw [HXS.out.1]
        have HO2 := Lib.hid O2
        have HX2 := Lib.hid (show (xs ++ [48 + bit]).length = m + 1 ∧ oneMore (xs ++ [48 + bit]) from ⟨by rw [List.length_append, HXS.out.1]; rfl, oneMore_push HXS.out.2 hbit⟩)
        clear hown hgrow hat O2
        go_wp2
        go_roundw
        case rel => exact ⟨m + 1, g2, c2, t5, _, by omega, by go_num, rfl, HX2, by omega, HO2⟩
        case measure => simp [intOf]; omega
      · by_cases h1 : kd = 1
        · subst h1
          go_wp2_with fail
          refine (HP.out _).mono ?_
          rintro e w' ⟨rfl, rfl⟩
          go_wp2_with fail
          refine (srcOne_any 1 6 B a len cap t' bs w0 _ _ HD.out rfl HX.out (by omega) (by omega) (by omega)).mono ?_
          rintro e w5 ⟨c, t5, rfl, ht4, ht5, h5⟩
          have H5 : Hid (DsI w0 w5 gs cs xs B a len cap t5) := Lib.hid h5
          have hsz := H5.out.2.size
          clear h5
          cases c
          · have Hrow := Lib.hid (H5.out.row.alloc (.cells #[.int .u8 (48 + p0)] 5))
            rw [HXS.out.1] at Hrow
            go_wp2_with (at_builtin; refine wpList_ap1 rfl (.tmp 41) (.tmp 45) 22 rfl w0.heap.size 5 (.int .u8 0) 1 Tryd.underlying22 Tryd.infoB8 rfl _ m _ rfl Hrow.out w5.heap.size (.int .u8 (48 + p0)) rfl (by go_simp) rfl (by omega) (by omega) (by simp only [alloc_size]; omega) ?_)
            intro v' w6 hown hgrow hat
            obtain ⟨g2, c2, rfl, O2⟩ := H5.out.push (by rw [HXS.out.1]; exact hown) (by rw [HXS.out.1]; exact hgrow) (by rw [HXS.out.1]; exact hat)
            rw [HXS.out.1]
            have HO2 := Lib.hid O2
            have HX2 := Lib.hid (show (xs ++ [48 + p0]).length = m + 1 ∧ oneMore (xs ++ [48 + p0]) from ⟨by rw [List.length_append, HXS.out.1]; rfl, oneMore_push HXS.out.2 hp01⟩)
            clear hown hgrow hat O2
            go_wp2
            go_roundw
            case rel => exact ⟨m + 1, g2, c2, t5, _, by omega, by go_num, rfl, HX2, by omega, HO2⟩
            case measure => simp [intOf]; omega
          · have Hrow := Lib.hid (H5.out.row.alloc (.cells #[.int .u8 (48 + (1 - p0))] 5))
            rw [HXS.out.1] at Hrow
            go_wp2_with (at_builtin; refine wpList_ap1 rfl (.tmp 41) (.tmp 45) 22 rfl w0.heap.size 5 (.int .u8 0) 1 Tryd.underlying22 Tryd.infoB8 rfl _ m _ rfl Hrow.out w5.heap.size (.int .u8 (48 + (1 - p0))) rfl (by go_simp) rfl (by omega) (by omega) (by simp only [alloc_size]; omega) ?_)
            intro v' w6 hown hgrow hat
            obtain ⟨g2, c2, rfl, O2⟩ := H5.out.push (by rw [HXS.out.1]; exact hown) (by rw [HXS.out.1]; exact hgrow) (by rw [HXS.out.1]; exact hat)
            rw [HXS.out.1]
            have HO2 := Lib.hid O2
            have HX2 := Lib.hid (show (xs ++ [48 + (1 - p0)]).length = m + 1 ∧ oneMore (xs ++ [48 + (1 - p0)]) from ⟨by rw [List.length_append, HXS.out.1]; rfl, oneMore_push HXS.out.2 (by omega)⟩)
            clear hown hgrow hat O2
            go_wp2
            go_roundw
            case rel => exact ⟨m + 1, g2, c2, t5, _, by omega, by go_num, rfl, HX2, by omega, HO2⟩
            case measure => simp [intOf]; omega
        · have h0' : (kd == 0) = false := by simpa using h0
          have h1' : (kd == 1) = false := by simpa using h1
          have hsz := HD.out.2.size
          have Hrow := Lib.hid (HD.out.row.alloc (.cells #[.int .u8 (48 + p0)] 5))
          rw [HXS.out.1] at Hrow
          go_wp2_with fail
          refine (HP.out _).mono ?_
          rintro e w' ⟨rfl, rfl⟩
          go_wp2_with (at_builtin; refine wpList_ap1 rfl (.tmp 41) (.tmp 45) 22 rfl w0.heap.size 5 (.int .u8 0) 1 Tryd.underlying22 Tryd.infoB8 rfl _ m _ rfl Hrow.out w'.heap.size (.int .u8 (48 + p0)) rfl (by go_simp) rfl (by omega) (by omega) (by simp only [alloc_size]; omega) ?_)
          intro v' w6 hown hgrow hat
          obtain ⟨g2, c2, rfl, O2⟩ := HD.out.push (by rw [HXS.out.1]; exact hown) (by rw [HXS.out.1]; exact hgrow) (by rw [HXS.out.1]; exact hat)
          rw [HXS.out.1]
          have HO2 := Lib.hid O2
          have HX2 := Lib.hid (show (xs ++ [48 + p0]).length = m + 1 ∧ oneMore (xs ++ [48 + p0]) from ⟨by rw [List.length_append, HXS.out.1]; rfl, oneMore_push HXS.out.2 hp01⟩)
          clear hown hgrow hat O2
          go_wp2
          go_roundw
          case rel => exact ⟨m + 1, g2, c2, t', _, by omega, by go_num, rfl, HX2, by omega, HO2⟩
          case measure => simp [intOf]; omega
    · obtain rfl : m = N := by omega
      have hrow := HD.out.row
      rw [HXS.out.1] at hrow
      have hcb := conv_own (P := Tryd.prog) 22 9 Tryd.underlying22 Tryd.underlying5 Tryd.underlying9 hrow
      clear hrow
      go_wp2
      go_ret
      exact ⟨xs, rfl, HXS.out.1, HXS.out.2, HD.out.2⟩
def RetR8T (w : World) (e : Ending) (w' : World) : Prop := ∃ s : ByteArray, ∃ k : Nat, e = .returned (.string s) ∧ Hid (k ≤ 4 ∧ s.size = 2 ^ k ∧ isB s = true ∧ Below w.heap.size w w')
set_option maxHeartbeats 800000 in
theorem r8Table_any (a : Option Addr) (len cap : Nat) (bs : List Int) (w : World) (hx : IsU8s w a len bs) (hl : len < 1000000) :
    Calls Tryd.prog 6 #[.slice a len cap] w (RetR8T w) := by
  have HX := Lib.hid hx
  clear hx
  go_enter Tryd.func6, Tryd.ntmps6
  go_wp2_with fail
  refine (srcFrom_any a len cap w).mono ?_
  rintro e w1 ⟨rfl, hw1⟩
  have h1 : OwnAt w w1 [(w.heap.size, srcO a len cap 0)] := by rw [hw1]; exact (OwnAt.start w).new (srcO_new a len cap)
  generalize w.heap.size = B at h1
  have H1 := Lib.hid h1
  clear h1 hw1
  go_wp2_with fail
  refine (srcPick_any 0 5 B a len cap 0 bs w w1 _ H1.out rfl HX.out (by omega) (by omega) (by omega)).mono ?_
  rintro e w2 ⟨x, t2, rfl, hx0, hx1, ht0, ht1, h2⟩
  have H2 := Lib.hid h2
  clear h2
  obtain ⟨n, rfl⟩ := Int.eq_ofNat_of_zero_le hx0
  have hn : n ≤ 4 := by omega
  clear hx1
  go_wp2_with fail
  refine (l04DrawSized_any n B a len cap t2 bs w w2 H2.out HX.out (by omega) (by omega) hn).mono ?_
  rintro e w3 ⟨xs, rfl, hxl, hx1, hb⟩
  have h2n : ∀ n, n ≤ 4 → 2 ^ n ≤ 16 := by decide
  have HF := Lib.hid (show n ≤ 4 ∧ (strOfNums xs).size = 2 ^ n ∧ isB (strOfNums xs) = true ∧ Below w.heap.size w w3 from ⟨hn, by rw [strOfNums_size, hxl], isB_nums hx1 (by have := h2n n hn; omega), hb⟩)
  clear hxl hx1 hb h2n
  go_wp2_with fail
  go_ret
  exact ⟨_, n, rfl, HF⟩
end Go.Proofs.YtgfkaldndaepfaaDoor

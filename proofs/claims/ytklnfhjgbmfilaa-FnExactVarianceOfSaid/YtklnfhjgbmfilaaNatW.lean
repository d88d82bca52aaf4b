import Derived.Test.YtklnfhjgbmfilaaOne
import Derived.Test.YtklnfhjgbmfilaaDigOver
import Derived.BigRegion
import Derived.Deep.LoopGhost
import Derived.Deep.DeepCutAuto
/- Numbers of any size in memory: slices of 32-bit digits; trim, the number of an int64, and plus. Conditions: the lengths stay below 2 to the power of 40. -/
namespace Go.Proofs.Ytklnfhjgbmfilaa
open Go.RowKit
set_option linter.unusedVariables false

/-- In the world w a slice of len digits at a reads as ds. -/
def IsU32s (w : World) (a : Option Addr) (len : Nat) (ds : List Nat) : Prop :=
  ds.length = len ∧ ∀ j, j < len → ∃ b off, a = some ⟨b, off, none⟩ ∧ w.cell? ⟨b, off + j, none⟩ = some (.int .u32 ((ds.getD j 0 : Nat) : Int))
theorem IsU32s.at {w a len ds} (h : IsU32s w a len ds) {j : Nat} (hj : j < len) :
    ∃ b off, a = some ⟨b, off, none⟩ ∧ w.cell? ⟨b, off + j, none⟩ = some (.int .u32 ((ds.getD j 0 : Nat) : Int)) := h.2 j hj
theorem IsU32s.nil {w : World} {a} : IsU32s w a 0 [] := ⟨rfl, fun j hj => absurd hj (Nat.not_lt_zero j)⟩
theorem IsU32s.below {w w' : World} {a len ds} (h : IsU32s w a len ds) (hb : Below w.heap.size w w') : IsU32s w' a len ds := by
  refine ⟨h.1, fun j hj => ?_⟩
  obtain ⟨b, off, ha, hc⟩ := h.2 j hj
  exact ⟨b, off, ha, (hb.cell (p := ⟨b, off + j, none⟩) (World.block_lt_of_cell? w _ hc)).trans hc⟩
theorem IsU32s.take {w : World} {a len ds} (h : IsU32s w a len ds) {n : Nat} (hn : n ≤ len) : IsU32s w a n (ds.take n) := by
  refine ⟨by rw [List.length_take, h.1]; omega, fun j hj => ?_⟩
  obtain ⟨b, off, ha, hc⟩ := h.2 j (by omega)
  exact ⟨b, off, ha, by rw [hc]; simp [List.getD, hj]⟩
def u32s (ds : List Nat) : List Value := ds.map fun d => Value.int .u32 ((d : Nat) : Int)
theorem u32s_len (ds : List Nat) : (u32s ds).length = ds.length := by simp [u32s]
theorem IsU32s.of_own {w : World} {B T : Nat} {a len cap} {ds : List Nat} (h : w.ownsRow B T 1 (.slice a len cap) len (u32s ds)) : IsU32s w a len ds := by
  refine ⟨by simpa [u32s] using h.1, fun j hj => ?_⟩
  have hlen : ds.length = len := by simpa [u32s] using h.1
  rcases h.2 with ⟨e, h0⟩ | ⟨g, c, cur, e, _⟩
  · omega
  · simp only [Value.slice.injEq] at e
    obtain ⟨rfl, _, rfl⟩ := e
    refine ⟨g, 0, rfl, ?_⟩
    have := h.cellAt j (by omega)
    rw [Nat.zero_add, this]
    simp [u32s, List.getD, List.getElem?_eq_getElem (show j < ds.length by omega)]

/-- A call's answer: a number of any size. -/
def RetNat (w : World) (x : Nat) (e : Ending) (w' : World) : Prop := ∃ a cap, e = .returned (.slice a (digs x).length cap) ∧ (digs x).length ≤ cap ∧ IsU32s w' a (digs x).length (digs x) ∧ Below w.heap.size w w'

theorem Try.infoU : (Try.prog.info? 151).map (fun i => (i.zero, i.size, i.bytes)) = some (some (.int .u32 0), 1, 4) := by kernel_rfl

theorem getD_lt {ds : List Nat} (h : dOk ds) (j : Nat) : ds.getD j 0 < 4294967296 := dOk_at h j

set_option maxHeartbeats 800000 in
theorem trim_any (a : Option Addr) (len cap : Nat) (ds : List Nat) (w : World) (hlc : len ≤ cap) (hb : len < 1099511627776) (hx : IsU32s w a len ds) (hok : dOk ds) :
    Calls Try.prog 128 #[.slice a len cap] w fun e w' => e = .returned (.slice a (digs (dval ds)).length cap) ∧ w = w' := by
  have HL := Lib.hid hx.1
  go_enter Try.func128, Try.ntmps128
  go_wp2
  go_loop [3] (fun n => ∃ k : Nat, k ≤ len ∧ n = .int .i64 (k : Nat) ∧ ∀ j, k ≤ j → j < len → ds.getD j 0 = 0) (fun n => (intOf n).toNat)
  case atStart => exact ⟨len, Nat.le_refl _, rfl, fun j h1 h2 => by omega⟩
  case round =>
    obtain ⟨k, hk, rfl, hz⟩ := hrel
    have HZ := Lib.hid hz
    clear hz
    cases k with
    | zero =>
      have HE := Lib.hid (show 0 = (digs (dval ds)).length by
        have := trim_eq hok (Nat.zero_le _) (fun j _ hj => HZ.out j (Nat.zero_le _) (by rw [← HL.out]; exact hj)) (Or.inl rfl)
        rw [← this]; rfl)
      have h0 : (0 : Int) ≤ (cap : Int) := by omega
      go_wp2
      go_ret
      exact ⟨by rw [← HE.out]; rfl, rfl⟩
    | succ m =>
      obtain ⟨b, off, ha, hc⟩ := hx.at (show m < len by omega)
      subst ha
      have h1 : (0 : Int) < ((m + 1 : Nat) : Int) := by omega
      have h2 : (m : Int) < (len : Int) := by omega
      have h3 : ((m : Int) + 1 ≤ (cap : Int)) := by omega
      by_cases hd : ds.getD m 0 = 0
      · rw [hd] at hc
        have HD := Lib.hid hd
        clear hd
        go_wp2
        go_round
        case rel =>
          refine ⟨m, by omega, by go_num, fun j h1 h2 => ?_⟩
          by_cases e : j = m
          · subst e; exact HD.out
          · exact HZ.out j (by omega) h2
        case measure => simp [intOf]
      · have HE := Lib.hid (show m + 1 = (digs (dval ds)).length by
          have := trim_eq hok (show m + 1 ≤ ds.length by rw [HL.out]; omega) (fun j h1 hj => HZ.out j h1 (by rw [← HL.out]; exact hj)) (Or.inr (by simpa using hd))
          rw [← this, List.length_take, HL.out]; omega)
        have hne : (((ds.getD m 0 : Nat) : Int) == 0) = false := by rw [beq_eq_false_iff_ne]; omega
        obtain ⟨d, hdd⟩ : ∃ d, ds.getD m 0 = d := ⟨_, rfl⟩
        rw [hdd] at hc hne
        clear hd hdd
        go_wp2
        go_ret
        exact ⟨by rw [← HE.out]; rfl, rfl⟩
/-- The same, in memory of the call's own. -/
def RetNatF (w : World) (x : Nat) (e : Ending) (w' : World) : Prop := ∃ a cap, e = .returned (.slice a (digs x).length cap) ∧ (digs x).length ≤ cap ∧ IsU32s w' a (digs x).length (digs x) ∧ Below w.heap.size w w' ∧ (∀ b f, a = some ⟨b, f, none⟩ → w.heap.size ≤ b)
theorem IsU32s.grown {w w' : World} {a : Option Addr} {n g : Nat} {ds : List Nat} (h : IsU32s w a n ds) (hg : w.grownBy w' (some g)) (hne : ∀ b f, a = some ⟨b, f, none⟩ → b ≠ g) : IsU32s w' a n ds := by
  refine ⟨h.1, fun j hj => ?_⟩
  obtain ⟨b, f, e, hc⟩ := h.2 j hj
  refine ⟨b, f, e, ?_⟩
  have hb := hg.block b (World.block_lt_of_cell? w _ hc) (by simpa using hne b f e)
  rw [← hc]
  simp only [World.cell?, hb]
/-- A row of digits of the call's own. -/
def OwnU (w : World) (B g n : Nat) (ds : List Nat) : Prop := w.ownsRow B 151 1 (.slice (some ⟨g, 0, none⟩) n n) n (u32s ds)
theorem u32s_set (ds : List Nat) (k d : Nat) : (u32s ds).set k (.int .u32 ((d : Nat) : Int)) = u32s (ds.set k d) := by simp [u32s, List.map_set]
theorem OwnU.len {w : World} {B g n : Nat} {ds : List Nat} (h : OwnU w B g n ds) : ds.length = n := by have := h.1; simpa [u32s] using this
theorem OwnU.reads {w : World} {B g n : Nat} {ds : List Nat} (h : OwnU w B g n ds) : IsU32s w (some ⟨g, 0, none⟩) n ds := IsU32s.of_own h
theorem OwnU.at {w : World} {B g n : Nat} {ds : List Nat} (h : OwnU w B g n ds) {j : Nat} (hj : j < n) : w.cell? ⟨g, j, none⟩ = some (.int .u32 ((ds.getD j 0 : Nat) : Int)) := by
  obtain ⟨b, off, e, hc⟩ := h.reads.at hj
  simp only [Option.some.injEq, Addr.mk.injEq] at e
  obtain ⟨rfl, rfl, _⟩ := e
  simpa using hc
theorem OwnU.free {w : World} {B g n : Nat} {ds : List Nat} (h : OwnU w B g n ds) (j : Nat) : w.frozen? ⟨g, j, none⟩ = false := World.ownsRow.frozenAt h j
theorem OwnU.old {w : World} {B g n : Nat} {ds : List Nat} (h : OwnU w B g n ds) : B ≤ g := (World.ownsRow.lt h g rfl).1
theorem OwnU.set {w : World} {B g n : Nat} {ds : List Nat} (h : OwnU w B g n ds) (j d : Nat) : OwnU (w.setCell ⟨g, j, none⟩ (.int .u32 ((d : Nat) : Int))) B g n (ds.set j d) := by
  have := (World.ownsRow.stored h j (.int .u32 ((d : Nat) : Int))).1
  rwa [u32s_set] at this
theorem OwnU.below {w w' : World} {B g n : Nat} {ds : List Nat} (h : OwnU w B g n ds) (hb : Below w.heap.size w w') : OwnU w' B g n ds := own_below h hb
theorem zerosU (n : Nat) : (madeCells #[Value.int .u32 0] n).toList = u32s (List.replicate n 0) := by
  rw [toList_madeCells_one]; simp [u32s]
/-- The number in a row of the call's own, its zeros dropped. -/
theorem trim_own_F (g n : Nat) (ds : List Nat) (w0 w : World) (hb : n < 1099511627776) (h : OwnU w w0.heap.size g n ds) (hbw : Below w0.heap.size w0 w) (hok : dOk ds) :
    Calls Try.prog 128 #[.slice (some ⟨g, 0, none⟩) n n] w (RetNatF w0 (dval ds)) := by
  refine (trim_any _ n n ds w (Nat.le_refl _) hb h.reads hok).mono ?_
  rintro e w' ⟨rfl, rfl⟩
  have hl : (digs (dval ds)).length ≤ n := by
    have := digs_len_le (dval_lt hok)
    rwa [h.len] at this
  have ht := h.reads.take hl
  have he : ds.take (digs (dval ds)).length = digs (dval ds) := by
    have h1 : dOk (ds.take (digs (dval ds)).length) := dOk_take hok _
    have hz := dval_split ds (digs (dval ds)).length (by rw [h.len]; exact hl)
    have hlt := dval_lt (digs_ok (dval ds))
    rw [dval_digs] at hlt
    have h0 : dval (ds.drop (digs (dval ds)).length) = 0 := dval_hi_zero hlt
    refine trim_eq hok (by rw [h.len]; exact hl) (fun j h1 h2 => ?_) ?_
    · have := dval_zero_iff h0 (j - (digs (dval ds)).length)
      simpa [List.getD, List.getElem?_drop, show (digs (dval ds)).length + (j - (digs (dval ds)).length) = j by omega] using this
    · by_cases e0 : dval ds = 0
      · left; rw [e0, digs_zero]; rfl
      · right
        intro e
        have h3 := dval_take_succ ds ((digs (dval ds)).length - 1)
        have hp := digs_len_pos (Nat.pos_of_ne_zero e0)
        rw [show (digs (dval ds)).length - 1 + 1 = (digs (dval ds)).length from by omega, e, Nat.mul_zero, Nat.add_zero] at h3
        rw [h0, Nat.mul_zero, Nat.add_zero] at hz
        have h4 := dval_lt (dOk_take hok ((digs (dval ds)).length - 1))
        rw [List.length_take, Nat.min_eq_left (by rw [h.len]; omega), ← h3, ← hz] at h4
        have := digs_ge e0
        omega
  rw [he] at ht
  exact ⟨_, n, rfl, hl, ht, hbw, fun b f e => by
    simp only [Option.some.injEq, Addr.mk.injEq] at e
    rw [← e.1]
    exact h.old⟩
theorem trim_own (g n : Nat) (ds : List Nat) (w0 w : World) (hb : n < 1099511627776) (h : OwnU w w0.heap.size g n ds) (hbw : Below w0.heap.size w0 w) (hok : dOk ds) :
    Calls Try.prog 128 #[.slice (some ⟨g, 0, none⟩) n n] w (RetNat w0 (dval ds)) :=
  (trim_own_F g n ds w0 w hb h hbw hok).mono fun e w' ⟨a, cap, h1, h2, h3, h4, _⟩ => ⟨a, cap, h1, h2, h3, h4⟩
theorem isU32s_two (w : World) (p q : Nat) : IsU32s (w.alloc (.cells #[.int .u32 (p : Nat), .int .u32 (q : Nat)] 151)) (some ⟨w.heap.size, 0, none⟩) 2 [p, q] := by
  refine ⟨rfl, fun j hj => ⟨w.heap.size, 0, rfl, ?_⟩⟩
  match j, hj with
  | 0, _ => simp [World.cell?_alloc_new]
  | 1, _ => simp [World.cell?_alloc_new]
set_option maxHeartbeats 800000 in
theorem naturalOf_F (n : Nat) (w : World) (hn : n < 9223372036854775808) :
    Calls Try.prog 95 #[.int .i64 (n : Nat)] w (RetNatF w n) := by
  have hx := isU32s_two w (n % 4294967296) (n / 4294967296)
  have hok : dOk [n % 4294967296, n / 4294967296] := fun d hd => by
    simp only [List.mem_cons, List.not_mem_nil, or_false] at hd
    unfold bse
    rcases hd with rfl | rfl <;> omega
  have hv : dval [n % 4294967296, n / 4294967296] = n := by simp only [dval, bse_eq]; omega
  have e1 : ((n % 4294967296 : Nat) : Int) = (n : Int) % 4294967296 := by omega
  have e2 : ((n / 4294967296 : Nat) : Int) = (n : Int) / 4294967296 := by omega
  rw [e1, e2] at hx
  have HX := Lib.hid (And.intro hx (And.intro hok hv))
  clear hx hok hv e1 e2
  go_enter Try.func95, Try.ntmps95
  go_wp2_with fail
  refine (trim_any _ 2 2 _ _ (by omega) (by omega) HX.out.1 HX.out.2.1).mono ?_
  rintro e w' ⟨rfl, rfl⟩
  rw [HX.out.2.2]
  go_wp2_with fail
  go_ret
  have hl : (digs n).length ≤ 2 := by
    have := digs_len_le (dval_lt HX.out.2.1)
    rwa [HX.out.2.2] at this
  have he : [n % 4294967296, n / 4294967296].take (digs n).length = digs n := by
    have h1 := HX.out.2.2
    by_cases e0 : n = 0
    · subst e0; rw [digs_zero]; rfl
    · by_cases e1 : n / 4294967296 = 0
      · have : n < 4294967296 := by omega
        have e : digs n = [n] := by
          have := digs_cons (d := n) (n := 0) this (by omega)
          simpa [digs_zero] using this
        rw [e]
        simp; omega
      · have h3 := canon HX.out.2.1 (Or.inr (by simpa using e1))
        rw [h1] at h3
        rw [← h3]
        rfl
  have ht := HX.out.1.take hl
  rw [he] at ht
  exact ⟨_, 2, rfl, hl, ht, (Below.refl _ _).alloc (Nat.le_refl _) _, fun b f e => by
    simp only [Option.some.injEq, Addr.mk.injEq] at e
    omega⟩
theorem naturalOf_any (n : Nat) (w : World) (hn : n < 9223372036854775808) :
    Calls Try.prog 95 #[.int .i64 (n : Nat)] w (RetNat w n) :=
  (naturalOf_F n w hn).mono fun e w' ⟨a, cap, h1, h2, h3, h4, _⟩ => ⟨a, cap, h1, h2, h3, h4⟩
theorem plus_round {xs ys ds : List Nat} {k cv : Nat} (hax : dOk xs) (hay : dOk ys) (hk : k < ds.length) (h : PlusR xs ys ds k cv) :
    ∃ t1 t u v : Nat, (cv : Int) + (xs.getD k 0 : Nat) = t1 ∧ (t1 : Int) + (ys.getD k 0 : Nat) = t ∧ (t : Int) % 4294967296 = u ∧ (t : Int) / 4294967296 = v ∧ t1 < 17179869184 ∧ t < 17179869184 ∧ PlusR xs ys (ds.set k u) (k + 1) v := by
  have h1 := plusR_next hax hay hk h
  have h2 := h.2.1
  have h3 := dOk_at hax k
  have h4 := dOk_at hay k
  rw [bse_eq] at h1 h3 h4
  exact ⟨_, _, _, _, by rw [← Int.natCast_add], by rw [← Int.natCast_add], by rw [Int.natCast_emod]; rfl, by rw [Int.natCast_ediv]; rfl, by omega, by omega, h1⟩
set_option maxRecDepth 20000 in
set_option maxHeartbeats 1600000 in
theorem natPlus_any (a1 a2 : Option Addr) (c1 c2 x y : Nat) (w : World) (hx : IsU32s w a1 (digs x).length (digs x)) (hy : IsU32s w a2 (digs y).length (digs y)) (hb1 : (digs x).length < 1073741824) (hb2 : (digs y).length < 1073741824) :
    Calls Try.prog 99 #[.slice a1 (digs x).length c1, .slice a2 (digs y).length c2] w (RetNat w (x + y)) := by
  obtain ⟨i0, hi, hz0, hz1, hz2⟩ := info_parts Try.infoU
  have HIn := Lib.hid (And.intro hx hy)
  obtain ⟨l1, hl1⟩ : ∃ l1, (digs x).length = l1 := ⟨_, rfl⟩
  obtain ⟨l2, hl2⟩ : ∃ l2, (digs y).length = l2 := ⟨_, rfl⟩
  rw [hl1, hl2] at HIn
  rw [hl1] at hb1
  rw [hl2] at hb2
  rw [hl1, hl2]
  clear hx hy hl1 hl2
  go_enter Try.func99, Try.ntmps99
  go_upto_if 12 with fail
  go_cut [0, 1] (fun v0 v1 wc => w = wc ∧ ∃ (p q : Option Addr) (m n cm cn : Nat) (xs ys : List Nat), v0 = .slice p m cm ∧ v1 = .slice q n cn ∧ Hid (IsU32s w p m xs ∧ IsU32s w q n ys ∧ dOk xs ∧ dOk ys ∧ dval xs + dval ys = x + y) ∧ n ≤ m ∧ m < 1073741824)
  case first =>
    by_cases h : (l1 : Int) < (l2 : Int)
    all_goals go_wp2_with fail
    all_goals go_meet
    · exact ⟨rfl, a2, a1, l2, l1, c2, c1, digs y, digs x, rfl, rfl, Lib.hid ⟨HIn.out.2, HIn.out.1, digs_ok _, digs_ok _, by rw [dval_digs, dval_digs]; omega⟩, by omega, by omega⟩
    · exact ⟨rfl, a1, a2, l1, l2, c1, c2, digs x, digs y, rfl, rfl, Lib.hid ⟨HIn.out.1, HIn.out.2, digs_ok _, digs_ok _, by rw [dval_digs, dval_digs]⟩, by omega, by omega⟩
  case rest =>
    obtain ⟨rfl, p, q, m, n, cm, cn, xs, ys, rfl, rfl, HC, hnm, hm⟩ := hcut
    clear hb1 hb2 HIn
    have Hm := Lib.hid (zerosU (m + 1))
    go_wp2_with (at_make; refine wpList_make_full _ rfl _ _ 77 rfl w.heap.size 151 i0 (.int .u32 0) 1 Try.underlying77 hi hz0 hz1 _ _ _ _ (m + 1) rfl rfl ?cL ?cC ?c1 ?c2 ?c3 ?_)
    case cL => omega
    case cC => omega
    case c1 => rw [hz2]; omega
    case c2 => unfold maxLen; omega
    case c3 => exact Nat.le_refl _
    intro w1 hown hgrow
    have hbw : Below w.heap.size w w1 := (Below.refl _ w).grown hgrow (Nat.le_refl _) (by simp)
    have hown0 : OwnU w1 w.heap.size w.heap.size (m + 1) (List.replicate (m + 1) 0) := by
      unfold OwnU
      rw [← Hm.out]
      exact hown
    have HO := Lib.hid hown0
    have Hb := Lib.hid hbw
    clear hown hgrow hown0 hbw Hm
    go_wp2
    go_loopw [21, 6] (fun i c wr => ∃ (k cv : Nat) (ds : List Nat), k ≤ m + 1 ∧ i = .int .i64 (k : Nat) ∧ c = .int .u64 (cv : Nat) ∧ Hid (PlusR xs ys ds k cv ∧ OwnU wr w.heap.size w.heap.size (m + 1) ds) ∧ Below w.heap.size w wr) (fun i _ _ => m + 1 - (intOf i).toNat)
    case atStart => exact ⟨0, 0, _, Nat.zero_le _, rfl, rfl, Lib.hid ⟨plusR_start _ _ _, HO.out⟩, Hb.out⟩
    case round =>
      obtain ⟨k, cv, ds, hk, rfl, rfl, HR, hbr⟩ := hrel
      by_cases hlt : k < m + 1
      · have hxs := (HC.out.1.below hbr)
        have hys := (HC.out.2.1.below hbr)
        have hxl := hxs.1
        have hyl := hys.1
        have hcell := HR.out.2.at hlt
        have hfree := HR.out.2.free k
        have hdl := HR.out.2.len
        obtain ⟨t1, t, u, v, e1, e2, e3, e4, b1, b2, hP⟩ := plus_round HC.out.2.2.1 HC.out.2.2.2.1 (show k < ds.length by omega) HR.out.1
        have hS := HR.out.2.set k u
        have HN := Lib.hid (And.intro hP hS)
        have Hb2 := Lib.hid hbr
        have hk0 : (0:Int) ≤ (k:Int) := by omega
        have hk1 : (k:Int) < (m:Int) + 1 := by omega
        obtain ⟨ck, hck⟩ : ∃ ck, ds.getD k 0 = ck := ⟨_, rfl⟩
        rw [hck] at hcell
        obtain ⟨ak, hak⟩ : ∃ ak, xs.getD k 0 = ak := ⟨_, rfl⟩
        obtain ⟨bk, hbk⟩ : ∃ bk, ys.getD k 0 = bk := ⟨_, rfl⟩
        have hak0 : m ≤ k → ak = 0 := fun h => by rw [← hak]; simp [List.getD, List.getElem?_eq_none (show xs.length ≤ k by omega)]
        have hbk0 : n ≤ k → bk = 0 := fun h => by rw [← hbk]; simp [List.getD, List.getElem?_eq_none (show ys.length ≤ k by omega)]
        rw [hak] at e1
        rw [hbk] at e2
        by_cases h1 : k < m
        · obtain ⟨b, off, ha, hc1⟩ := hxs.at h1
          subst ha
          rw [hak] at hc1
          have hi1 : (k:Int) < (m:Int) := by omega
          by_cases h2 : k < n
          · obtain ⟨b', off', hb', hc2⟩ := hys.at h2
            subst hb'
            rw [hbk] at hc2
            have hi2 : (k:Int) < (n:Int) := by omega
            clear hxs hys hxl hyl hdl hP hS hbr hck hak hbk hak0 hbk0
            go_wp2
            go_roundw
            case rel => exact ⟨k + 1, v, ds.set k u, by omega, by go_num, rfl, HN, Hb2.out.setCell (p := ⟨w.heap.size, k, none⟩) (Nat.le_refl _) _⟩
            case measure => simp [intOf]; omega
          · obtain rfl : bk = 0 := hbk0 (by omega)
            have e5 : t1 = t := by omega
            subst e5
            have hi2 : ¬ (k:Int) < (n:Int) := by omega
            clear hxs hys hxl hyl hdl hP hS hbr hck hak hbk hak0 hbk0 e2
            go_wp2
            go_roundw
            case rel => exact ⟨k + 1, v, ds.set k u, by omega, by go_num, rfl, HN, Hb2.out.setCell (p := ⟨w.heap.size, k, none⟩) (Nat.le_refl _) _⟩
            case measure => simp [intOf]; omega
        · obtain rfl : bk = 0 := hbk0 (by omega)
          obtain rfl : ak = 0 := hak0 (by omega)
          have e5 : t1 = t := by omega
          subst e5
          have e6 : cv = t1 := by omega
          subst e6
          have hi1 : ¬ (k:Int) < (m:Int) := by omega
          have hi2 : ¬ (k:Int) < (n:Int) := by omega
          clear hxs hys hxl hyl hdl hP hS hbr hck hak hbk hak0 hbk0 e2 e1
          go_wp2
          go_roundw
          case rel => exact ⟨k + 1, v, ds.set k u, by omega, by go_num, rfl, HN, Hb2.out.setCell (p := ⟨w.heap.size, k, none⟩) (Nat.le_refl _) _⟩
          case measure => simp [intOf]; omega
      · obtain rfl : k = m + 1 := by omega
        have hE := plusR_end HC.out.2.2.1 HC.out.2.2.2.1 (by rw [HC.out.2.1.1, HC.out.1.1]; exact hnm) (by rw [HC.out.1.1]) HR.out.2.len HR.out.1
        rw [HC.out.2.2.2.2] at hE
        have HE := Lib.hid hE
        have Hb2 := Lib.hid hbr
        clear hE hbr
        go_wp2_with fail
        refine (trim_own w.heap.size (m + 1) ds w _ (by omega) HR.out.2 Hb2.out HR.out.1.1).mono ?_
        rintro e w' h
        rw [HE.out] at h
        obtain ⟨a, cap, rfl, h1, h2, h3⟩ := h
        have H := Lib.hid (And.intro h1 (And.intro h2 h3))
        clear h1 h2 h3
        go_wp2_with fail
        go_ret
        exact ⟨a, cap, rfl, H.out.1, H.out.2.1, H.out.2.2⟩
end Go.Proofs.Ytklnfhjgbmfilaa

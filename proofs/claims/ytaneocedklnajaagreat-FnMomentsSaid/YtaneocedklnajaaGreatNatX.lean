import Derived.Test.YtaneocedklnajaaGreatOne
import Derived.Test.YtaneocedklnajaaGreatDigX
import Derived.BigRegion
import Derived.Deep.LoopGhost
import Derived.Deep.DeepCutAuto
/- Numbers of any size in memory: slices of 32-bit digits; trim, the number of an int64, and plus. Conditions: the lengths stay below 2 to the power of 40. -/
namespace Go.Proofs.YtaneocedklnajaaGreat
open Go.RowKit
set_option linter.unusedVariables false

/-- In the world w a slice of len digits at a reads as ds. -/
def IsU32s (w : World) (a : Option Addr) (len : Nat) (ds : List Nat) : Prop :=
  ds.length = len ∧ ∀ j, j < len → ∃ b off, a = some ⟨b, off, none⟩ ∧ w.cell? ⟨b, off + j, none⟩ = some (.int .u32 ((ds.getD j 0 : Nat) : Int))
theorem IsU32s.at {w a len ds} (h : IsU32s w a len ds) {j : Nat} (hj : j < len) :
    ∃ b off, a = some ⟨b, off, none⟩ ∧ w.cell? ⟨b, off + j, none⟩ = some (.int .u32 ((ds.getD j 0 : Nat) : Int)) := h.2 j hj
theorem IsU32s.nil {w : World} {a} : IsU32s w a 0 [] := ⟨rfl, fun j hj => absurd hj (Nat.not_lt_zero j)⟩
theorem IsU32s.below {w w' : World} {a len ds} (h : IsU32s w a len ds) (hb : Below w.heap.size w w') : IsU32s w' a len ds := by
  refine ⟨h.1, fun j hj => ?_⟩
  obtain ⟨b, off, ha, hc⟩ := h.2 j hj
  exact ⟨b, off, ha, (hb.cell (p := ⟨b, off + j, none⟩) (World.block_lt_of_cell? w _ hc)).trans hc⟩
theorem IsU32s.take {w : World} {a len ds} (h : IsU32s w a len ds) {n : Nat} (hn : n ≤ len) : IsU32s w a n (ds.take n) := by
  refine ⟨by rw [List.length_take, h.1]; omega, fun j hj => ?_⟩
  obtain ⟨b, off, ha, hc⟩ := h.2 j (by omega)
  exact ⟨b, off, ha, by rw [hc]; simp [List.getD, hj]⟩
def u32s (ds : List Nat) : List Value := ds.map fun d => Value.int .u32 ((d : Nat) : Int)
theorem u32s_len (ds : List Nat) : (u32s ds).length = ds.length := by simp [u32s]
theorem IsU32s.of_own {w : World} {B T : Nat} {a len cap} {ds : List Nat} (h : w.ownsRow B T 1 (.slice a len cap) len (u32s ds)) : IsU32s w a len ds := by
  refine ⟨by simpa [u32s] using h.1, fun j hj => ?_⟩
  have hlen : ds.length = len := by simpa [u32s] using h.1
  rcases h.2 with ⟨e, h0⟩ | ⟨g, c, cur, e, _⟩
  · omega
  · simp only [Value.slice.injEq] at e
    obtain ⟨rfl, _, rfl⟩ := e
    refine ⟨g, 0, rfl, ?_⟩
    have := h.cellAt j (by omega)
    rw [Nat.zero_add, this]
    simp [u32s, List.getD, List.getElem?_eq_getElem (show j < ds.length by omega)]

/-- A call's answer: a number of any size. -/
def RetNat (w : World) (x : Nat) (e : Ending) (w' : World) : Prop := ∃ a cap, e = .returned (.slice a (digs x).length cap) ∧ (digs x).length ≤ cap ∧ IsU32s w' a (digs x).length (digs x) ∧ Below w.heap.size w w'

theorem Tryz.infoU : (Tryz.prog.info? 131).map (fun i => (i.zero, i.size, i.bytes)) = some (some (.int .u32 0), 1, 4) := by kernel_rfl

theorem getD_lt {ds : List Nat} (h : dOk ds) (j : Nat) : ds.getD j 0 < 4294967296 := dOk_at h j

set_option maxHeartbeats 800000 in
theorem trim_any (a : Option Addr) (len cap : Nat) (ds : List Nat) (w : World) (hlc : len ≤ cap) (hb : len < 1099511627776) (hx : IsU32s w a len ds) (hok : dOk ds) :
    Calls Tryz.prog 107 #[.slice a len cap] w fun e w' => e = .returned (.slice a (digs (dval ds)).length cap) ∧ w = w' := by
  have HL := Lib.hid hx.1
  go_enter Tryz.func107, Tryz.ntmps107
  go_wp2
  go_loop [3] (fun n => ∃ k : Nat, k ≤ len ∧ n = .int .i64 (k : Nat) ∧ ∀ j, k ≤ j → j < len → ds.getD j 0 = 0) (fun n => (intOf n).toNat)
  case atStart => exact ⟨len, Nat.le_refl _, rfl, fun j h1 h2 => by omega⟩
  case round =>
    obtain ⟨k, hk, rfl, hz⟩ := hrel
    have HZ := Lib.hid hz
    clear hz
    cases k with
    | zero =>
      have HE := Lib.hid (show 0 = (digs (dval ds)).length by
        have := trim_eq hok (Nat.zero_le _) (fun j _ hj => HZ.out j (Nat.zero_le _) (by rw [← HL.out]; exact hj)) (Or.inl rfl)
        rw [← this]; rfl)
      have h0 : (0 : Int) ≤ (cap : Int) := by omega
      go_wp2
      go_ret
      exact ⟨by rw [← HE.out]; rfl, rfl⟩
    | succ m =>
      obtain ⟨b, off, ha, hc⟩ := hx.at (show m < len by omega)
      subst ha
      have h1 : (0 : Int) < ((m + 1 : Nat) : Int) := by omega
      have h2 : (m : Int) < (len : Int) := by omega
      have h3 : ((m : Int) + 1 ≤ (cap : Int)) := by omega
      by_cases hd : ds.getD m 0 = 0
      · rw [hd] at hc
        have HD := Lib.hid hd
        clear hd
        go_wp2
        go_round
        case rel =>
          refine ⟨m, by omega, by go_num, fun j h1 h2 => ?_⟩
          by_cases e : j = m
          · subst e; exact HD.out
          · exact HZ.out j (by omega) h2
        case measure => simp [intOf]
      · have HE := Lib.hid (show m + 1 = (digs (dval ds)).length by
          have := trim_eq hok (show m + 1 ≤ ds.length by rw [HL.out]; omega) (fun j h1 hj => HZ.out j h1 (by rw [← HL.out]; exact hj)) (Or.inr (by simpa using hd))
          rw [← this, List.length_take, HL.out]; omega)
        have hne : (((ds.getD m 0 : Nat) : Int) == 0) = false := by rw [beq_eq_false_iff_ne]; omega
        obtain ⟨d, hdd⟩ : ∃ d, ds.getD m 0 = d := ⟨_, rfl⟩
        rw [hdd] at hc hne
        clear hd hdd
        go_wp2
        go_ret
        exact ⟨by rw [← HE.out]; rfl, rfl⟩
/-- The same, in memory of the call's own. -/
def RetNatF (w : World) (x : Nat) (e : Ending) (w' : World) : Prop := ∃ a cap, e = .returned (.slice a (digs x).length cap) ∧ (digs x).length ≤ cap ∧ IsU32s w' a (digs x).length (digs x) ∧ Below w.heap.size w w' ∧ (∀ b f, a = some ⟨b, f, none⟩ → w.heap.size ≤ b)
theorem IsU32s.grown {w w' : World} {a : Option Addr} {n g : Nat} {ds : List Nat} (h : IsU32s w a n ds) (hg : w.grownBy w' (some g)) (hne : ∀ b f, a = some ⟨b, f, none⟩ → b ≠ g) : IsU32s w' a n ds := by
  refine ⟨h.1, fun j hj => ?_⟩
  obtain ⟨b, f, e, hc⟩ := h.2 j hj
  refine ⟨b, f, e, ?_⟩
  have hb := hg.block b (World.block_lt_of_cell? w _ hc) (by simpa using hne b f e)
  rw [← hc]
  simp only [World.cell?, hb]
/-- A row of digits of the call's own. -/
def OwnU (w : World) (B g n : Nat) (ds : List Nat) : Prop := w.ownsRow B 131 1 (.slice (some ⟨g, 0, none⟩) n n) n (u32s ds)
theorem u32s_set (ds : List Nat) (k d : Nat) : (u32s ds).set k (.int .u32 ((d : Nat) : Int)) = u32s (ds.set k d) := by simp [u32s, List.map_set]
theorem OwnU.len {w : World} {B g n : Nat} {ds : List Nat} (h : OwnU w B g n ds) : ds.length = n := by have := h.1; simpa [u32s] using this
theorem OwnU.reads {w : World} {B g n : Nat} {ds : List Nat} (h : OwnU w B g n ds) : IsU32s w (some ⟨g, 0, none⟩) n ds := IsU32s.of_own h
theorem OwnU.at {w : World} {B g n : Nat} {ds : List Nat} (h : OwnU w B g n ds) {j : Nat} (hj : j < n) : w.cell? ⟨g, j, none⟩ = some (.int .u32 ((ds.getD j 0 : Nat) : Int)) := by
  obtain ⟨b, off, e, hc⟩ := h.reads.at hj
  simp only [Option.some.injEq, Addr.mk.injEq] at e
  obtain ⟨rfl, rfl, _⟩ := e
  simpa using hc
theorem OwnU.free {w : World} {B g n : Nat} {ds : List Nat} (h : OwnU w B g n ds) (j : Nat) : w.frozen? ⟨g, j, none⟩ = false := World.ownsRow.frozenAt h j
theorem OwnU.old {w : World} {B g n : Nat} {ds : List Nat} (h : OwnU w B g n ds) : B ≤ g := (World.ownsRow.lt h g rfl).1
theorem OwnU.set {w : World} {B g n : Nat} {ds : List Nat} (h : OwnU w B g n ds) (j d : Nat) : OwnU (w.setCell ⟨g, j, none⟩ (.int .u32 ((d : Nat) : Int))) B g n (ds.set j d) := by
  have := (World.ownsRow.stored h j (.int .u32 ((d : Nat) : Int))).1
  rwa [u32s_set] at this
theorem OwnU.below {w w' : World} {B g n : Nat} {ds : List Nat} (h : OwnU w B g n ds) (hb : Below w.heap.size w w') : OwnU w' B g n ds := own_below h hb
theorem zerosU (n : Nat) : (madeCells #[Value.int .u32 0] n).toList = u32s (List.replicate n 0) := by
  rw [toList_madeCells_one]; simp [u32s]
/-- The number in a row of the call's own, its zeros dropped. -/
theorem trim_own_F (g n : Nat) (ds : List Nat) (w0 w : World) (hb : n < 1099511627776) (h : OwnU w w0.heap.size g n ds) (hbw : Below w0.heap.size w0 w) (hok : dOk ds) :
    Calls Tryz.prog 107 #[.slice (some ⟨g, 0, none⟩) n n] w (RetNatF w0 (dval ds)) := by
  refine (trim_any _ n n ds w (Nat.le_refl _) hb h.reads hok).mono ?_
  rintro e w' ⟨rfl, rfl⟩
  have hl : (digs (dval ds)).length ≤ n := by
    have := digs_len_le (dval_lt hok)
    rwa [h.len] at this
  have ht := h.reads.take hl
  have he : ds.take (digs (dval ds)).length = digs (dval ds) := by
    have h1 : dOk (ds.take (digs (dval ds)).length) := dOk_take hok _
    have hz := dval_split ds (digs (dval ds)).length (by rw [h.len]; exact hl)
    have hlt := dval_lt (digs_ok (dval ds))
    rw [dval_digs] at hlt
    have h0 : dval (ds.drop (digs (dval ds)).length) = 0 := dval_hi_zero hlt
    refine trim_eq hok (by rw [h.len]; exact hl) (fun j h1 h2 => ?_) ?_
    · have := dval_zero_iff h0 (j - (digs (dval ds)).length)
      simpa [List.getD, List.getElem?_drop, show (digs (dval ds)).length + (j - (digs (dval ds)).length) = j by omega] using this
    · by_cases e0 : dval ds = 0
      · left; rw [e0, digs_zero]; rfl
      · right
        intro e
        have h3 := dval_take_succ ds ((digs (dval ds)).length - 1)
        have hp := digs_len_pos (Nat.pos_of_ne_zero e0)
        rw [show (digs (dval ds)).length - 1 + 1 = (digs (dval ds)).length from by omega, e, Nat.mul_zero, Nat.add_zero] at h3
        rw [h0, Nat.mul_zero, Nat.add_zero] at hz
        have h4 := dval_lt (dOk_take hok ((digs (dval ds)).length - 1))
        rw [List.length_take, Nat.min_eq_left (by rw [h.len]; omega), ← h3, ← hz] at h4
        have := digs_ge e0
        omega
  rw [he] at ht
  exact ⟨_, n, rfl, hl, ht, hbw, fun b f e => by
    simp only [Option.some.injEq, Addr.mk.injEq] at e
    rw [← e.1]
    exact h.old⟩
theorem trim_own (g n : Nat) (ds : List Nat) (w0 w : World) (hb : n < 1099511627776) (h : OwnU w w0.heap.size g n ds) (hbw : Below w0.heap.size w0 w) (hok : dOk ds) :
    Calls Tryz.prog 107 #[.slice (some ⟨g, 0, none⟩) n n] w (RetNat w0 (dval ds)) :=
  (trim_own_F g n ds w0 w hb h hbw hok).mono fun e w' ⟨a, cap, h1, h2, h3, h4, _⟩ => ⟨a, cap, h1, h2, h3, h4⟩
theorem isU32s_two (w : World) (p q : Nat) : IsU32s (w.alloc (.cells #[.int .u32 (p : Nat), .int .u32 (q : Nat)] 131)) (some ⟨w.heap.size, 0, none⟩) 2 [p, q] := by
  refine ⟨rfl, fun j hj => ⟨w.heap.size, 0, rfl, ?_⟩⟩
  match j, hj with
  | 0, _ => simp [World.cell?_alloc_new]
  | 1, _ => simp [World.cell?_alloc_new]
set_option maxHeartbeats 800000 in
theorem naturalOf_F (n : Nat) (w : World) (hn : n < 9223372036854775808) :
    Calls Tryz.prog 78 #[.int .i64 (n : Nat)] w (RetNatF w n) := by
  have hx := isU32s_two w (n % 4294967296) (n / 4294967296)
  have hok : dOk [n % 4294967296, n / 4294967296] := fun d hd => by
    simp only [List.mem_cons, List.not_mem_nil, or_false] at hd
    unfold bse
    rcases hd with rfl | rfl <;> omega
  have hv : dval [n % 4294967296, n / 4294967296] = n := by simp only [dval, bse_eq]; omega
  have e1 : ((n % 4294967296 : Nat) : Int) = (n : Int) % 4294967296 := by omega
  have e2 : ((n / 4294967296 : Nat) : Int) = (n : Int) / 4294967296 := by omega
  rw [e1, e2] at hx
  have HX := Lib.hid (And.intro hx (And.intro hok hv))
  clear hx hok hv e1 e2
  go_enter Tryz.func78, Tryz.ntmps78
  go_wp2_with fail
  refine (trim_any _ 2 2 _ _ (by omega) (by omega) HX.out.1 HX.out.2.1).mono ?_
  rintro e w' ⟨rfl, rfl⟩
  rw [HX.out.2.2]
  go_wp2_with fail
  go_ret
  have hl : (digs n).length ≤ 2 := by
    have := digs_len_le (dval_lt HX.out.2.1)
    rwa [HX.out.2.2] at this
  have he : [n % 4294967296, n / 4294967296].take (digs n).length = digs n := by
    have h1 := HX.out.2.2
    by_cases e0 : n = 0
    · subst e0; rw [digs_zero]; rfl
    · by_cases e1 : n / 4294967296 = 0
      · have : n < 4294967296 := by omega
        have e : digs n = [n] := by
          have := digs_cons (d := n) (n := 0) this (by omega)
          simpa [digs_zero] using this
        rw [e]
        simp; omega
      · have h3 := canon HX.out.2.1 (Or.inr (by simpa using e1))
        rw [h1] at h3
        rw [← h3]
        rfl
  have ht := HX.out.1.take hl
  rw [he] at ht
  exact ⟨_, 2, rfl, hl, ht, (Below.refl _ _).alloc (Nat.le_refl _) _, fun b f e => by
    simp only [Option.some.injEq, Addr.mk.injEq] at e
    omega⟩
theorem naturalOf_any (n : Nat) (w : World) (hn : n < 9223372036854775808) :
    Calls Tryz.prog 78 #[.int .i64 (n : Nat)] w (RetNat w n) :=
  (naturalOf_F n w hn).mono fun e w' ⟨a, cap, h1, h2, h3, h4, _⟩ => ⟨a, cap, h1, h2, h3, h4⟩
theorem plus_round {xs ys ds : List Nat} {k cv : Nat} (hax : dOk xs) (hay : dOk ys) (hk : k < ds.length) (h : PlusR xs ys ds k cv) :
    ∃ t1 t u v : Nat, (cv : Int) + (xs.getD k 0 : Nat) = t1 ∧ (t1 : Int) + (ys.getD k 0 : Nat) = t ∧ (t : Int) % 4294967296 = u ∧ (t : Int) / 4294967296 = v ∧ t1 < 17179869184 ∧ t < 17179869184 ∧ PlusR xs ys (ds.set k u) (k + 1) v := by
  have h1 := plusR_next hax hay hk h
  have h2 := h.2.1
  have h3 := dOk_at hax k
  have h4 := dOk_at hay k
  rw [bse_eq] at h1 h3 h4
  exact ⟨_, _, _, _, by rw [← Int.natCast_add], by rw [← Int.natCast_add], by rw [Int.natCast_emod]; rfl, by rw [Int.natCast_ediv]; rfl, by omega, by omega, h1⟩
set_option maxRecDepth 20000 in
set_option maxHeartbeats 1600000 in
theorem natPlus_any (a1 a2 : Option Addr) (c1 c2 x y : Nat) (w : World) (hx : IsU32s w a1 (digs x).length (digs x)) (hy : IsU32s w a2 (digs y).length (digs y)) (hb1 : (digs x).length < 1073741824) (hb2 : (digs y).length < 1073741824) :
    Calls Tryz.prog 74 #[.slice a1 (digs x).length c1, .slice a2 (digs y).length c2] w (RetNat w (x + y)) := by
  obtain ⟨i0, hi, hz0, hz1, hz2⟩ := info_parts Tryz.infoU
  have HIn := Lib.hid (And.intro hx hy)
  obtain ⟨l1, hl1⟩ : ∃ l1, (digs x).length = l1 := ⟨_, rfl⟩
  obtain ⟨l2, hl2⟩ : ∃ l2, (digs y).length = l2 := ⟨_, rfl⟩
  rw [hl1, hl2] at HIn
  rw [hl1] at hb1
  rw [hl2] at hb2
  rw [hl1, hl2]
  clear hx hy hl1 hl2
  go_enter Tryz.func74, Tryz.ntmps74
  go_upto_if 12 with fail
  go_cut [0, 1] (fun v0 v1 wc => w = wc ∧ ∃ (p q : Option Addr) (m n cm cn : Nat) (xs ys : List Nat), v0 = .slice p m cm ∧ v1 = .slice q n cn ∧ Hid (IsU32s w p m xs ∧ IsU32s w q n ys ∧ dOk xs ∧ dOk ys ∧ dval xs + dval ys = x + y) ∧ n ≤ m ∧ m < 1073741824)
  case first =>
    by_cases h : (l1 : Int) < (l2 : Int)
    all_goals go_wp2_with fail
    all_goals go_meet
    · exact ⟨rfl, a2, a1, l2, l1, c2, c1, digs y, digs x, rfl, rfl, Lib.hid ⟨HIn.out.2, HIn.out.1, digs_ok _, digs_ok _, by rw [dval_digs, dval_digs]; omega⟩, by omega, by omega⟩
    · exact ⟨rfl, a1, a2, l1, l2, c1, c2, digs x, digs y, rfl, rfl, Lib.hid ⟨HIn.out.1, HIn.out.2, digs_ok _, digs_ok _, by rw [dval_digs, dval_digs]⟩, by omega, by omega⟩
  case rest =>
    obtain ⟨rfl, p, q, m, n, cm, cn, xs, ys, rfl, rfl, HC, hnm, hm⟩ := hcut
    clear hb1 hb2 HIn
    have Hm := Lib.hid (zerosU (m + 1))
    go_wp2_with (at_make; refine wpList_make_full _ rfl _ _ 64 rfl w.heap.size 131 i0 (.int .u32 0) 1 Tryz.underlying64 hi hz0 hz1 _ _ _ _ (m + 1) rfl rfl ?cL ?cC ?c1 ?c2 ?c3 ?_)
    case cL => omega
    case cC => omega
    case c1 => rw [hz2]; omega
    case c2 => unfold maxLen; omega
    case c3 => exact Nat.le_refl _
    intro w1 hown hgrow
    have hbw : Below w.heap.size w w1 := (Below.refl _ w).grown hgrow (Nat.le_refl _) (by simp)
    have hown0 : OwnU w1 w.heap.size w.heap.size (m + 1) (List.replicate (m + 1) 0) := by
      unfold OwnU
      rw [← Hm.out]
      exact hown
    have HO := Lib.hid hown0
    have Hb := Lib.hid hbw
    clear hown hgrow hown0 hbw Hm
    go_wp2
    go_loopw [21, 6] (fun i c wr => ∃ (k cv : Nat) (ds : List Nat), k ≤ m + 1 ∧ i = .int .i64 (k : Nat) ∧ c = .int .u64 (cv : Nat) ∧ Hid (PlusR xs ys ds k cv ∧ OwnU wr w.heap.size w.heap.size (m + 1) ds) ∧ Below w.heap.size w wr) (fun i _ _ => m + 1 - (intOf i).toNat)
    case atStart => exact ⟨0, 0, _, Nat.zero_le _, rfl, rfl, Lib.hid ⟨plusR_start _ _ _, HO.out⟩, Hb.out⟩
    case round =>
      obtain ⟨k, cv, ds, hk, rfl, rfl, HR, hbr⟩ := hrel
      by_cases hlt : k < m + 1
      · have hxs := (HC.out.1.below hbr)
        have hys := (HC.out.2.1.below hbr)
        have hxl := hxs.1
        have hyl := hys.1
        have hcell := HR.out.2.at hlt
        have hfree := HR.out.2.free k
        have hdl := HR.out.2.len
        obtain ⟨t1, t, u, v, e1, e2, e3, e4, b1, b2, hP⟩ := plus_round HC.out.2.2.1 HC.out.2.2.2.1 (show k < ds.length by omega) HR.out.1
        have hS := HR.out.2.set k u
        have HN := Lib.hid (And.intro hP hS)
        have Hb2 := Lib.hid hbr
        have hk0 : (0:Int) ≤ (k:Int) := by omega
        have hk1 : (k:Int) < (m:Int) + 1 := by omega
        obtain ⟨ck, hck⟩ : ∃ ck, ds.getD k 0 = ck := ⟨_, rfl⟩
        rw [hck] at hcell
        obtain ⟨ak, hak⟩ : ∃ ak, xs.getD k 0 = ak := ⟨_, rfl⟩
        obtain ⟨bk, hbk⟩ : ∃ bk, ys.getD k 0 = bk := ⟨_, rfl⟩
        have hak0 : m ≤ k → ak = 0 := fun h => by rw [← hak]; simp [List.getD, List.getElem?_eq_none (show xs.length ≤ k by omega)]
        have hbk0 : n ≤ k → bk = 0 := fun h => by rw [← hbk]; simp [List.getD, List.getElem?_eq_none (show ys.length ≤ k by omega)]
        rw [hak] at e1
        rw [hbk] at e2
        by_cases h1 : k < m
        · obtain ⟨b, off, ha, hc1⟩ := hxs.at h1
          subst ha
          rw [hak] at hc1
          have hi1 : (k:Int) < (m:Int) := by omega
          by_cases h2 : k < n
          · obtain ⟨b', off', hb', hc2⟩ := hys.at h2
            subst hb'
            rw [hbk] at hc2
            have hi2 : (k:Int) < (n:Int) := by omega
            clear hxs hys hxl hyl hdl hP hS hbr hck hak hbk hak0 hbk0
            go_wp2
            go_roundw
            case rel => exact ⟨k + 1, v, ds.set k u, by omega, by go_num, rfl, HN, Hb2.out.setCell (p := ⟨w.heap.size, k, none⟩) (Nat.le_refl _) _⟩
            case measure => simp [intOf]; omega
          · obtain rfl : bk = 0 := hbk0 (by omega)
            have e5 : t1 = t := by omega
            subst e5
            have hi2 : ¬ (k:Int) < (n:Int) := by omega
            clear hxs hys hxl hyl hdl hP hS hbr hck hak hbk hak0 hbk0 e2
            go_wp2
            go_roundw
            case rel => exact ⟨k + 1, v, ds.set k u, by omega, by go_num, rfl, HN, Hb2.out.setCell (p := ⟨w.heap.size, k, none⟩) (Nat.le_refl _) _⟩
            case measure => simp [intOf]; omega
        · obtain rfl : bk = 0 := hbk0 (by omega)
          obtain rfl : ak = 0 := hak0 (by omega)
          have e5 : t1 = t := by omega
          subst e5
          have e6 : cv = t1 := by omega
          subst e6
          have hi1 : ¬ (k:Int) < (m:Int) := by omega
          have hi2 : ¬ (k:Int) < (n:Int) := by omega
          clear hxs hys hxl hyl hdl hP hS hbr hck hak hbk hak0 hbk0 e2 e1
          go_wp2
          go_roundw
          case rel => exact ⟨k + 1, v, ds.set k u, by omega, by go_num, rfl, HN, Hb2.out.setCell (p := ⟨w.heap.size, k, none⟩) (Nat.le_refl _) _⟩
          case measure => simp [intOf]; omega
      · obtain rfl : k = m + 1 := by omega
        have hE := plusR_end HC.out.2.2.1 HC.out.2.2.2.1 (by rw [HC.out.2.1.1, HC.out.1.1]; exact hnm) (by rw [HC.out.1.1]) HR.out.2.len HR.out.1
        rw [HC.out.2.2.2.2] at hE
        have HE := Lib.hid hE
        have Hb2 := Lib.hid hbr
        clear hE hbr
        go_wp2_with fail
        refine (trim_own w.heap.size (m + 1) ds w _ (by omega) HR.out.2 Hb2.out HR.out.1.1).mono ?_
        rintro e w' h
        rw [HE.out] at h
        obtain ⟨a, cap, rfl, h1, h2, h3⟩ := h
        have H := Lib.hid (And.intro h1 (And.intro h2 h3))
        clear h1 h2 h3
        go_wp2_with fail
        go_ret
        exact ⟨a, cap, rfl, H.out.1, H.out.2.1, H.out.2.2⟩
end Go.Proofs.YtaneocedklnajaaGreat
/- Numbers of any size in memory: compare, minus, times. Conditions: the lengths stay below 2 to the power of 30. -/
namespace Go.Proofs.YtaneocedklnajaaGreat
open Go.RowKit
set_option linter.unusedVariables false

/-- The sign of c tells how x and y compare. -/
def CmpIs (x y : Nat) (c : Int) : Prop := (c < 0 ↔ x < y) ∧ (0 < c ↔ y < x)
def RetCmp (w : World) (x y : Nat) (e : Ending) (w' : World) : Prop := ∃ c : Int, -1073741824 ≤ c ∧ c ≤ 1073741824 ∧ CmpIs x y c ∧ e = .returned (.int .i64 c) ∧ Below w.heap.size w w'
theorem cmp_lens {x y : Nat} (h : (digs x).length ≠ (digs y).length) : CmpIs x y (((digs x).length : Int) - ((digs y).length : Int)) := by
  unfold CmpIs
  rcases Nat.lt_or_gt_of_ne h with h1 | h1
  · have := digs_len_lt h1
    omega
  · have := digs_len_lt h1
    omega
theorem cmp_digs {x y i : Nat} (hl : (digs x).length = (digs y).length) (hi : i < (digs x).length) (hs : ∀ j, i < j → j < (digs x).length → (digs x).getD j 0 = (digs y).getD j 0) (h : (digs x).getD i 0 < (digs y).getD i 0) : x < y := by
  have := cmp_at (digs_ok x) (digs_ok y) hl hi hs h
  rwa [dval_digs, dval_digs] at this
theorem cmp_same {x y : Nat} (hl : (digs x).length = (digs y).length) (hs : ∀ j, j < (digs x).length → (digs x).getD j 0 = (digs y).getD j 0) : x = y := by
  have : digs x = digs y := by
    apply List.ext_getElem hl
    intro i h1 h2
    have := hs i h1
    simpa [List.getD, List.getElem?_eq_getElem h1, List.getElem?_eq_getElem h2] using this
  rw [← dval_digs x, this, dval_digs]
set_option maxRecDepth 20000 in
set_option maxHeartbeats 1600000 in
theorem natCompare_any (a1 a2 : Option Addr) (c1 c2 x y : Nat) (w : World) (hx : IsU32s w a1 (digs x).length (digs x)) (hy : IsU32s w a2 (digs y).length (digs y)) (hb1 : (digs x).length < 1073741824) (hb2 : (digs y).length < 1073741824) :
    Calls Tryz.prog 75 #[.slice a1 (digs x).length c1, .slice a2 (digs y).length c2] w (RetCmp w x y) := by
  by_cases hll : (digs x).length = (digs y).length
  · have hsm : ∀ j, j < (digs x).length → (digs x).getD j 0 < 4294967296 ∧ (digs y).getD j 0 < 4294967296 := fun j _ => ⟨dOk_at (digs_ok x) j, dOk_at (digs_ok y) j⟩
    have HD := Lib.hid (And.intro (fun i => cmp_digs (x := x) (y := y) (i := i) hll) (And.intro (fun i => cmp_digs (x := y) (y := x) (i := i) hll.symm) (And.intro (cmp_same hll) hsm)))
    rw [← hll] at hy HD ⊢
    obtain ⟨xs, hxs⟩ : ∃ xs, digs x = xs := ⟨_, rfl⟩
    obtain ⟨ys, hys⟩ : ∃ ys, digs y = ys := ⟨_, rfl⟩
    rw [hxs] at hx hb1 HD hy ⊢
    rw [hys] at HD hy
    obtain ⟨l, hl⟩ : ∃ l, xs.length = l := ⟨_, rfl⟩
    rw [hl] at hx hb1 HD hy ⊢
    have HX := Lib.hid (And.intro hx hy)
    clear hx hy hxs hys hl hll hb2 hsm
    go_enter Tryz.func75, Tryz.ntmps75
    go_wp2
    go_loopw [5] (fun v wr => ∃ (k : Nat) (i : Int), Hid (i = (k : Int) - 1) ∧ k ≤ l ∧ -1 ≤ i ∧ i < l ∧ v = .int .i64 i ∧ Hid (∀ j, k ≤ j → j < l → xs.getD j 0 = ys.getD j 0) ∧ Below w.heap.size w wr) (fun v _ => (intOf v + 1).toNat)
    case atStart => exact ⟨l, _, Lib.hid rfl, Nat.le_refl _, by omega, by omega, rfl, Lib.hid (fun j h1 h2 => by omega), Below.refl _ _⟩
    case round =>
      obtain ⟨k, i, HI, hk, hi1, hi2, rfl, HS, hbr⟩ := hrel
      by_cases h0 : 0 ≤ i
      · obtain ⟨m, rfl⟩ := Int.eq_ofNat_of_zero_le h0
        have hm : m < l := by omega
        obtain ⟨b, off, ha, h1⟩ := (HX.out.1.below hbr).at hm
        obtain ⟨b', off', ha', h2⟩ := (HX.out.2.below hbr).at hm
        subst ha ha'
        have Hb := Lib.hid hbr
        clear hbr
        obtain ⟨d1, hd1⟩ : ∃ d, xs.getD m 0 = d := ⟨_, rfl⟩
        obtain ⟨d2, hd2⟩ : ∃ d, ys.getD m 0 = d := ⟨_, rfl⟩
        rw [hd1] at h1
        rw [hd2] at h2
        by_cases he : d1 = d2
        · subst he
          have HE := Lib.hid (And.intro hd1 hd2)
          clear hd1 hd2
          go_wp2
          go_quiet (fail)
          go_wp2
          go_roundw
          case rel =>
            refine ⟨m, _, Lib.hid rfl, by omega, by omega, by omega, rfl, Lib.hid (fun j h1 h2 => ?_), bthen Hb.out (drewN_below _ _)⟩
            by_cases e : j = m
            · subst e; rw [HE.out.1, HE.out.2]
            · exact HS.out j (by have := HI.out; omega) h2
          case measure => simp [intOf]
        · have hs : ∀ j, m < j → j < l → xs.getD j 0 = ys.getD j 0 := fun j h1 h2 => HS.out j (by have := HI.out; omega) h2
          have hne1 : ((d1 : Int) != (d2 : Int)) = true := by rw [bne_iff_ne]; omega
          have hne2 : (d1 != d2) = true := by rw [bne_iff_ne]; exact he
          have hlt := HD.out.2.2.2 m hm
          rw [hd1, hd2] at hlt
          by_cases hc : (d1 : Int) < (d2 : Int)
          · have HF := Lib.hid (HD.out.1 m hm hs (by rw [hd1, hd2]; omega))
            clear hs hd1 hd2 he hlt
            go_wp2
            go_quiet (fail)
            go_wp2
            go_quiet (fail)
            go_wp2
            go_ret
            exact ⟨-1, by omega, by omega, ⟨⟨fun _ => HF.out, fun _ => by omega⟩, ⟨fun h => by omega, fun h => by have := HF.out; omega⟩⟩, rfl, bthen Hb.out (bthen (drewN_below _ _) (drewN_below _ _))⟩
          · have HF := Lib.hid (HD.out.2.1 m hm (fun j h1 h2 => (hs j h1 h2).symm) (by rw [hd1, hd2]; omega))
            have hc' : decide ((d1 : Int) < (d2 : Int)) = false := decide_eq_false hc
            clear hs hd1 hd2 he hlt
            go_wp2
            go_quiet (fail)
            go_wp2
            go_quiet (fail)
            go_wp2
            go_ret
            exact ⟨1, by omega, by omega, ⟨⟨fun h => by omega, fun h => by have := HF.out; omega⟩, ⟨fun _ => HF.out, fun _ => by omega⟩⟩, rfl, bthen Hb.out (bthen (drewN_below _ _) (drewN_below _ _))⟩
      · have HF := Lib.hid (HD.out.2.2.1 (fun j hj => HS.out j (by have := HI.out; omega) hj))
        have Hb := Lib.hid hbr
        clear hbr
        go_wp2
        go_ret
        exact ⟨0, by omega, by omega, ⟨⟨fun h => by omega, fun h => by have := HF.out; omega⟩, ⟨fun h => by omega, fun h => by have := HF.out; omega⟩⟩, rfl, Hb.out⟩
  · have HC := Lib.hid (cmp_lens hll)
    obtain ⟨l1, hl1⟩ : ∃ l, (digs x).length = l := ⟨_, rfl⟩
    obtain ⟨l2, hl2⟩ : ∃ l, (digs y).length = l := ⟨_, rfl⟩
    rw [hl1, hl2] at HC hll ⊢
    rw [hl1] at hb1
    rw [hl2] at hb2
    have h1 : ((l1 : Int) != (l2 : Int)) = true := by rw [bne_iff_ne]; omega
    have h2 : (l1 != l2) = true := by rw [bne_iff_ne]; exact hll
    clear hx hy hl1 hl2 hll
    go_enter Tryz.func75, Tryz.ntmps75
    go_wp2
    go_ret
    exact ⟨(l1 : Int) - (l2 : Int), by omega, by omega, HC.out, rfl, Below.refl _ _⟩
theorem minus_round {xs ys ds : List Nat} {k r : Nat} (hax : dOk xs) (hay : dOk ys) (hk : k < ds.length) (h : MinusR xs ys ds k r) :
    ∃ z1 z : Int, ((xs.getD k 0 : Nat) : Int) - (r : Int) = z1 ∧ z1 - ((ys.getD k 0 : Nat) : Int) = z ∧ -4294967296 ≤ z1 ∧ z1 ≤ 4294967295 ∧ -4294967296 ≤ z ∧ z ≤ 4294967295 ∧
      (z < 0 → ∃ d : Nat, z + 4294967296 = d ∧ d < 4294967296 ∧ MinusR xs ys (ds.set k d) (k + 1) 1) ∧ (0 ≤ z → ∃ d : Nat, z = d ∧ d < 4294967296 ∧ MinusR xs ys (ds.set k d) (k + 1) 0) := by
  have h2 := h.2.1
  have h3 := dOk_at hax k
  have h4 := dOk_at hay k
  rw [bse_eq] at h3 h4
  refine ⟨_, _, rfl, rfl, by omega, by omega, by omega, by omega, fun hz => ?_, fun hz => ?_⟩
  · refine ⟨((xs.getD k 0 : Nat) - (r : Int) - (ys.getD k 0 : Nat) + 4294967296).toNat, by omega, by omega, ?_⟩
    refine minusR_next (by rw [bse_eq]; omega) (by omega) (by rw [bse_eq]; omega) hk h
  · refine ⟨((xs.getD k 0 : Nat) - (r : Int) - (ys.getD k 0 : Nat)).toNat, by omega, by omega, ?_⟩
    refine minusR_next (by rw [bse_eq]; omega) (by omega) (by rw [bse_eq]; omega) hk h
set_option maxRecDepth 20000 in
set_option maxHeartbeats 3200000 in
theorem natMinus_F (a1 a2 : Option Addr) (m n cm cn : Nat) (xs ys : List Nat) (w : World) (hx : IsU32s w a1 m xs) (hy : IsU32s w a2 n ys) (hox : dOk xs) (hoy : dOk ys) (hnm : n ≤ m) (hm : m < 1073741824) (hle : dval ys ≤ dval xs) :
    Calls Tryz.prog 76 #[.slice a1 m cm, .slice a2 n cn] w (RetNatF w (dval xs - dval ys)) := by
  obtain ⟨i0, hi, hz0, hz1, hz2⟩ := info_parts Tryz.infoU
  have HC := Lib.hid (And.intro hx (And.intro hy (And.intro hox (And.intro hoy hle))))
  have Hm := Lib.hid (zerosU m)
  clear hx hy hox hoy hle
  go_enter Tryz.func76, Tryz.ntmps76
  go_wp2_with (at_make; refine wpList_make_full _ rfl _ _ 64 rfl w.heap.size 131 i0 (.int .u32 0) 1 Tryz.underlying64 hi hz0 hz1 _ _ _ _ m rfl rfl rfl rfl ?c1 ?c2 ?c3 ?_)
  case c1 => rw [hz2]; omega
  case c2 => unfold maxLen; omega
  case c3 => exact Nat.le_refl _
  intro w1 hown hgrow
  have hbw : Below w.heap.size w w1 := (Below.refl _ w).grown hgrow (Nat.le_refl _) (by simp)
  have hown0 : OwnU w1 w.heap.size w.heap.size m (List.replicate m 0) := by
    unfold OwnU
    rw [← Hm.out]
    exact hown
  have HO := Lib.hid hown0
  have Hb := Lib.hid hbw
  clear hown hgrow hown0 hbw Hm
  go_wp2
  go_loopw [14, 6] (fun i c wr => ∃ (k r : Nat) (ds : List Nat), k ≤ m ∧ i = .int .i64 (k : Nat) ∧ c = .int .i64 (r : Nat) ∧ r ≤ 1 ∧ Hid (MinusR xs ys ds k r ∧ OwnU wr w.heap.size w.heap.size m ds) ∧ Below w.heap.size w wr) (fun i _ _ => m - (intOf i).toNat)
  case atStart => exact ⟨0, 0, _, Nat.zero_le _, rfl, rfl, by omega, Lib.hid ⟨minusR_start _ _ _, HO.out⟩, Hb.out⟩
  case round =>
    obtain ⟨k, r, ds, hk, rfl, rfl, hr1, HR, hbr⟩ := hrel
    by_cases hlt : k < m
    · have hxs := (HC.out.1.below hbr)
      have hys := (HC.out.2.1.below hbr)
      have hyl := hys.1
      have hcell := HR.out.2.at hlt
      have hfree := HR.out.2.free k
      have hdl := HR.out.2.len
      obtain ⟨z1, z, e1, e2, b1, b2, b3, b4, hneg, hpos⟩ := minus_round HC.out.2.2.1 HC.out.2.2.2.1 (show k < ds.length by omega) HR.out.1
      have Hb2 := Lib.hid hbr
      have hk0 : (0:Int) ≤ (k:Int) := by omega
      have hk1 : (k:Int) < (m:Int) := by omega
      obtain ⟨ck, hck⟩ : ∃ ck, ds.getD k 0 = ck := ⟨_, rfl⟩
      rw [hck] at hcell
      have hax := dOk_at HC.out.2.2.1 k
      have hay := dOk_at HC.out.2.2.2.1 k
      rw [bse_eq] at hax hay
      obtain ⟨ak, hak⟩ : ∃ ak, xs.getD k 0 = ak := ⟨_, rfl⟩
      obtain ⟨bk, hbk⟩ : ∃ bk, ys.getD k 0 = bk := ⟨_, rfl⟩
      have hbk0 : n ≤ k → bk = 0 := fun h => by rw [← hbk]; simp [List.getD, List.getElem?_eq_none (show ys.length ≤ k by omega)]
      rw [hak] at e1 hax
      rw [hbk] at e2 hay
      obtain ⟨b, off, ha, hc1⟩ := hxs.at hlt
      subst ha
      rw [hak] at hc1
      have HRO := Lib.hid HR.out.2
      by_cases h2 : k < n
      · obtain ⟨b', off', hb', hc2⟩ := hys.at h2
        subst hb'
        rw [hbk] at hc2
        have hi2 : (k:Int) < (n:Int) := by omega
        by_cases hz : z < 0
        · obtain ⟨d, e3, hd, hM⟩ := hneg hz
          have HN := Lib.hid (And.intro hM (HRO.out.set k d))
          clear hxs hys hyl hdl hbr hck hak hbk hbk0 hneg hpos hM HRO
          go_wp2
          go_roundw
          case rel => exact ⟨k + 1, 1, ds.set k d, by omega, by go_num, rfl, by omega, HN, Hb2.out.setCell (p := ⟨w.heap.size, k, none⟩) (Nat.le_refl _) _⟩
          case measure => simp [intOf]; omega
        · obtain ⟨d, e3, hd, hM⟩ := hpos (by omega)
          subst e3
          have HN := Lib.hid (And.intro hM (HRO.out.set k d))
          clear hxs hys hyl hdl hbr hck hak hbk hbk0 hneg hpos hM HRO
          go_wp2
          go_roundw
          case rel => exact ⟨k + 1, 0, ds.set k d, by omega, by go_num, rfl, by omega, HN, Hb2.out.setCell (p := ⟨w.heap.size, k, none⟩) (Nat.le_refl _) _⟩
          case measure => simp [intOf]; omega
      · obtain rfl : bk = 0 := hbk0 (by omega)
        obtain rfl : z1 = z := by omega
        have hi2 : ¬ (k:Int) < (n:Int) := by omega
        by_cases hz : z1 < 0
        · obtain ⟨d, e3, hd, hM⟩ := hneg hz
          have HN := Lib.hid (And.intro hM (HRO.out.set k d))
          clear hxs hys hyl hdl hbr hck hak hbk hbk0 hneg hpos hM HRO e2
          go_wp2
          go_roundw
          case rel => exact ⟨k + 1, 1, ds.set k d, by omega, by go_num, rfl, by omega, HN, Hb2.out.setCell (p := ⟨w.heap.size, k, none⟩) (Nat.le_refl _) _⟩
          case measure => simp [intOf]; omega
        · obtain ⟨d, e3, hd, hM⟩ := hpos (by omega)
          subst e3
          have HN := Lib.hid (And.intro hM (HRO.out.set k d))
          clear hxs hys hyl hdl hbr hck hak hbk hbk0 hneg hpos hM HRO e2
          go_wp2
          go_roundw
          case rel => exact ⟨k + 1, 0, ds.set k d, by omega, by go_num, rfl, by omega, HN, Hb2.out.setCell (p := ⟨w.heap.size, k, none⟩) (Nat.le_refl _) _⟩
          case measure => simp [intOf]; omega
    · obtain rfl : k = m := by omega
      have hR := HR.out.1
      rw [← HC.out.1.1] at hR
      have HE := Lib.hid (minusR_end HC.out.2.2.1 HC.out.2.2.2.2 (by rw [HC.out.1.1, HC.out.2.1.1]; exact hnm) (by rw [HR.out.2.len, HC.out.1.1]) hR)
      have Hb2 := Lib.hid hbr
      clear hbr hR
      go_wp2_with fail
      refine (trim_own_F w.heap.size k ds w _ (by omega) HR.out.2 Hb2.out HR.out.1.1).mono ?_
      rintro e w' h
      rw [HE.out] at h
      obtain ⟨a, cap, rfl, h1, h2, h3, h4⟩ := h
      have H := Lib.hid (And.intro h1 (And.intro h2 (And.intro h3 h4)))
      clear h1 h2 h3 h4
      go_wp2_with fail
      go_ret
      exact ⟨a, cap, rfl, H.out.1, H.out.2.1, H.out.2.2⟩
theorem natMinus_any (a1 a2 : Option Addr) (m n cm cn : Nat) (xs ys : List Nat) (w : World) (hx : IsU32s w a1 m xs) (hy : IsU32s w a2 n ys) (hox : dOk xs) (hoy : dOk ys) (hnm : n ≤ m) (hm : m < 1073741824) (hle : dval ys ≤ dval xs) :
    Calls Tryz.prog 76 #[.slice a1 m cm, .slice a2 n cn] w (RetNat w (dval xs - dval ys)) :=
  (natMinus_F a1 a2 m n cm cn xs ys w hx hy hox hoy hnm hm hle).mono fun e w' ⟨a, cap, h1, h2, h3, h4, _⟩ => ⟨a, cap, h1, h2, h3, h4⟩
end Go.Proofs.YtaneocedklnajaaGreat
/- Numbers of any size in memory: times, up, down, small. Conditions: the lengths stay below 2 to the power of 30. -/
namespace Go.Proofs.YtaneocedklnajaaGreat
open Go.RowKit
set_option linter.unusedVariables false

theorem times_round {xs ys ds : List Nat} {i k c q : Nat} (ha : dOk xs) (hb : dOk ys) (hk : k < ys.length) (hq : i + k = q) (hl : q < ds.length) (h : TimesS xs ys ds i k c) :
    ∃ p t0 t u v : Nat, ((xs.getD i 0 : Nat) : Int) * ((ys.getD k 0 : Nat) : Int) = p ∧ ((ds.getD q 0 : Nat) : Int) + (p : Int) = t0 ∧ (c : Int) + (t0 : Int) = t ∧ (t : Int) % 4294967296 = u ∧ (t : Int) / 4294967296 = v ∧
      p < 18446744073709551616 ∧ t0 < 18446744073709551616 ∧ t < 18446744073709551616 ∧ v < 4294967296 ∧ TimesS xs ys (ds.set q u) i (k + 1) v := by
  subst hq
  obtain ⟨h1, h2⟩ := timesS_next ha hb hk hl (t := c + ds.getD (i + k) 0 + xs.getD i 0 * ys.getD k 0) rfl h
  have hv := h1.2.1
  rw [bse_eq] at h1 h2 hv
  refine ⟨xs.getD i 0 * ys.getD k 0, ds.getD (i + k) 0 + xs.getD i 0 * ys.getD k 0, c + ds.getD (i + k) 0 + xs.getD i 0 * ys.getD k 0, _, _, by rw [Int.natCast_mul], by rw [Int.natCast_add], by rw [← Int.natCast_add, Nat.add_assoc], by rw [Int.natCast_emod]; rfl, by rw [Int.natCast_ediv]; rfl, by omega, by omega, by omega, hv, h1⟩
set_option maxRecDepth 20000 in
set_option maxHeartbeats 3200000 in
theorem natTimes_any (a1 a2 : Option Addr) (c1 c2 x y : Nat) (w : World) (hx : IsU32s w a1 (digs x).length (digs x)) (hy : IsU32s w a2 (digs y).length (digs y)) (hb1 : (digs x).length < 1073741824) (hb2 : (digs y).length < 1073741824) :
    Calls Tryz.prog 73 #[.slice a1 (digs x).length c1, .slice a2 (digs y).length c2] w (RetNat w (x * y)) := by
  obtain ⟨i0, hi, hz0, hz1, hz2⟩ := info_parts Tryz.infoU
  have HC := Lib.hid (And.intro hx (And.intro hy (And.intro (digs_ok x) (And.intro (digs_ok y) (show dval (digs x) * dval (digs y) = x * y by rw [dval_digs, dval_digs])))))
  obtain ⟨xs, hxs⟩ : ∃ xs, digs x = xs := ⟨_, rfl⟩
  obtain ⟨ys, hys⟩ : ∃ ys, digs y = ys := ⟨_, rfl⟩
  rw [hxs, hys] at HC
  rw [hxs] at hb1
  rw [hys] at hb2
  rw [hxs, hys]
  obtain ⟨m, hm⟩ : ∃ m, xs.length = m := ⟨_, rfl⟩
  obtain ⟨n, hn⟩ : ∃ n, ys.length = n := ⟨_, rfl⟩
  rw [hm] at HC hb1 ⊢
  rw [hn] at HC hb2 ⊢
  obtain ⟨N, hN⟩ : ∃ N, m + n = N := ⟨_, rfl⟩
  have HN := Lib.hid hN
  have HL := Lib.hid (And.intro hm hn)
  have Hm := Lib.hid (zerosU N)
  clear hx hy hxs hys hm hn hN
  go_enter Tryz.func73, Tryz.ntmps73
  go_wp2_with (at_make; refine wpList_make_full _ rfl _ _ 64 rfl w.heap.size 131 i0 (.int .u32 0) 1 Tryz.underlying64 hi hz0 hz1 _ _ _ _ N rfl rfl ?cL ?cC ?c1 ?c2 ?c3 ?_)
  case cL => have := HN.out; omega
  case cC => have := HN.out; omega
  case c1 => have := HN.out; rw [hz2]; omega
  case c2 => have := HN.out; unfold maxLen; omega
  case c3 => exact Nat.le_refl _
  intro w1 hown hgrow
  have hbw : Below w.heap.size w w1 := (Below.refl _ w).grown hgrow (Nat.le_refl _) (by simp)
  have hown0 : OwnU w1 w.heap.size w.heap.size N (List.replicate N 0) := by
    unfold OwnU
    rw [← Hm.out]
    exact hown
  have HO := Lib.hid hown0
  have Hb := Lib.hid hbw
  clear hown hgrow hown0 hbw Hm
  go_wp2
  go_loopw [19] (fun i wr => ∃ (k : Nat) (ds : List Nat), k ≤ m ∧ i = .int .i64 (k : Nat) ∧ Hid (TimesR xs ys ds k ∧ OwnU wr w.heap.size w.heap.size N ds) ∧ Below w.heap.size w wr) (fun i _ => m - (intOf i).toNat)
  case atStart => exact ⟨0, _, Nat.zero_le _, rfl, Lib.hid ⟨timesR_start _ _ _, HO.out⟩, Hb.out⟩
  case round =>
    obtain ⟨i, ds, hk, rfl, HR, hbr⟩ := hrel
    obtain ⟨wo, rfl⟩ : ∃ wo : World, wo = wr := ⟨_, rfl⟩
    by_cases hlt : i < m
    · obtain ⟨b, off, ha, hc1⟩ := (HC.out.1.below hbr).at hlt
      subst ha
      have hi0 : (0:Int) ≤ (i:Int) := by omega
      have hi1 : (i:Int) < (m:Int) := by omega
      have hai := dOk_at HC.out.2.2.1 i
      rw [bse_eq] at hai
      obtain ⟨ai, hai'⟩ : ∃ ai, xs.getD i 0 = ai := ⟨_, rfl⟩
      rw [hai'] at hc1 hai
      have HA := Lib.hid hai'
      have Hb2 := Lib.hid hbr
      clear hbr hai'
      go_wp2
      go_loopw [26, 8] (fun kk cc wr => ∃ (k c : Nat) (ds : List Nat), k ≤ n ∧ kk = .int .i64 (k : Nat) ∧ cc = .int .u64 (c : Nat) ∧ c < 4294967296 ∧ Hid (TimesS xs ys ds i k c ∧ OwnU wr w.heap.size w.heap.size N ds) ∧ Below w.heap.size w wr) (fun kk _ _ => n - (intOf kk).toNat)
      case atStart => exact ⟨0, 0, ds, Nat.zero_le _, rfl, rfl, by omega, Lib.hid ⟨timesS_start HR.out.1, HR.out.2⟩, Hb2.out⟩
      case round =>
        obtain ⟨k, c, es, hkn, rfl, rfl, hc32, HS, hbr⟩ := hrel
        by_cases hlt2 : k < n
        · obtain ⟨b', off', hb', hc2⟩ := (HC.out.2.1.below hbr).at hlt2
          subst hb'
          have hk0 : (0:Int) ≤ (k:Int) := by omega
          have hk1 : (k:Int) < (n:Int) := by omega
          obtain ⟨q, hq⟩ : ∃ q, i + k = q := ⟨_, rfl⟩
          have hqN : q < N := by have := HN.out; omega
          have hq0 : (0:Int) ≤ (q:Int) := by omega
          have hq1 : (q:Int) < (N:Int) := by omega
          have hqe : (i:Int) + (k:Int) = (q:Int) := by omega
          have hqw : IntKind.i64.wrap (q:Int) = (q:Int) := IntWalk.i64_in _ (by have := HN.out; omega)
          have hdl := HS.out.2.len
          have hcell := HS.out.2.at hqN
          have hfree := HS.out.2.free q
          obtain ⟨p, t0, t, u, v, e1, e2, e3, e4, e5, b1, b2, b3, b4, hT⟩ := times_round HC.out.2.2.1 HC.out.2.2.2.1 (show k < ys.length by have := HL.out.2; omega) hq (show q < es.length by omega) HS.out.1
          have hbk := dOk_at HC.out.2.2.2.1 k
          have hoq := dOk_at HS.out.1.1 q
          rw [bse_eq] at hbk hoq
          obtain ⟨bk, hbk'⟩ : ∃ bk, ys.getD k 0 = bk := ⟨_, rfl⟩
          obtain ⟨oq, hoq'⟩ : ∃ oq, es.getD q 0 = oq := ⟨_, rfl⟩
          rw [hbk'] at hc2 hbk e1
          rw [HA.out] at e1
          rw [hoq'] at hcell hoq e2
          have HT := Lib.hid (And.intro hT (HS.out.2.set q u))
          have Hb3 := Lib.hid hbr
          clear hbr hq hdl hT hbk' hoq'
          go_wp2
          go_roundw
          case rel => exact ⟨k + 1, v, es.set q u, by omega, by go_num, rfl, b4, HT, Hb3.out.setCell (p := ⟨w.heap.size, q, none⟩) (Nat.le_refl _) _⟩
          case measure => simp [intOf]; omega
        · obtain rfl : k = n := by omega
          obtain ⟨q, hq⟩ : ∃ q, i + k = q := ⟨_, rfl⟩
          have hqN : q < N := by have := HN.out; omega
          have hq0 : (0:Int) ≤ (q:Int) := by omega
          have hq1 : (q:Int) < (N:Int) := by omega
          have hqe : (i:Int) + (k:Int) = (q:Int) := by omega
          have hqw : IntKind.i64.wrap (q:Int) = (q:Int) := IntWalk.i64_in _ (by have := HN.out; omega)
          have hcell := HS.out.2.at hqN
          have hfree := HS.out.2.free q
          have hS := HS.out.1
          rw [← HL.out.2] at hS
          have hT := timesS_end (by rw [HL.out.2, hq, HS.out.2.len]; exact hqN) hS
          rw [HL.out.2, hq] at hT
          have HT := Lib.hid (And.intro hT (HS.out.2.set q c))
          obtain ⟨oq, hoq'⟩ : ∃ oq, es.getD q 0 = oq := ⟨_, rfl⟩
          rw [hoq'] at hcell
          have Hb3 := Lib.hid hbr
          have hcm : (c : Int) % 4294967296 = (c : Int) := by omega
          clear hbr hq hT hS hoq'
          go_wp2
          go_roundw
          case rel => exact ⟨i + 1, es.set q c, by omega, by go_num, HT, Hb3.out.setCell (p := ⟨w.heap.size, q, none⟩) (Nat.le_refl _) _⟩
          case measure => simp [intOf]; omega
    · obtain rfl : i = m := by omega
      have hR := HR.out.1
      rw [← HL.out.1] at hR
      have hE := timesR_end hR
      rw [HC.out.2.2.2.2] at hE
      have HE := Lib.hid hE
      have Hb2 := Lib.hid hbr
      clear hbr hR hE
      have hNb : N < 1099511627776 := by have := HN.out; omega
      go_wp2_with fail
      refine (trim_own w.heap.size N ds w _ hNb HR.out.2 Hb2.out HR.out.1.1).mono ?_
      rintro e w' h
      rw [HE.out] at h
      obtain ⟨a, cap, rfl, h1, h2, h3⟩ := h
      have H := Lib.hid (And.intro h1 (And.intro h2 h3))
      clear h1 h2 h3
      go_wp2_with fail
      go_ret
      exact ⟨a, cap, rfl, H.out.1, H.out.2.1, H.out.2.2⟩
end Go.Proofs.YtaneocedklnajaaGreat
/- Numbers of any size in memory: up, down, small. Conditions: the lengths stay below 2 to the power of 30, shifts at most 31. -/
namespace Go.Proofs.YtaneocedklnajaaGreat
open Go.RowKit
set_option linter.unusedVariables false

theorem toNat_ofInt64' (a : Nat) (h : a < 18446744073709551616) : (BitVec.ofInt 64 (a : Int)).toNat = a := by
  rw [BitVec.ofInt_natCast, BitVec.toNat_ofNat]; exact Nat.mod_eq_of_lt (by omega)
theorem or_u64 (a b : Nat) (ha : a < 18446744073709551616) (hb : b < 18446744073709551616) : bits .or .u64 (a : Int) (b : Int) = ((a ||| b : Nat) : Int) := by
  have hx : a ||| b < 2 ^ 64 := Nat.or_lt_two_pow (by omega) (by omega)
  show IntKind.u64.wrap ((BitVec.ofInt 64 (a : Int) ||| BitVec.ofInt 64 (b : Int)).toNat : Int) = _
  rw [BitVec.toNat_or, toNat_ofInt64' a ha, toNat_ofInt64' b hb, IntKind.wrap_u64]
  omega
theorem and_u64 (a b : Nat) (ha : a < 18446744073709551616) (hb : b < 18446744073709551616) : bits .and .u64 (a : Int) (b : Int) = ((a &&& b : Nat) : Int) := by
  have hx : a &&& b < 2 ^ 64 := Nat.and_lt_two_pow _ (by omega)
  show IntKind.u64.wrap ((BitVec.ofInt 64 (a : Int) &&& BitVec.ofInt 64 (b : Int)).toNat : Int) = _
  rw [BitVec.toNat_and, toNat_ofInt64' a ha, toNat_ofInt64' b hb, IntKind.wrap_u64]
  omega
theorem or_add {c d s : Nat} (hc : c < 2 ^ s) : c ||| 2 ^ s * d = c + 2 ^ s * d := by
  rw [Nat.or_comm, ← Nat.two_pow_add_eq_or_of_lt hc d, Nat.add_comm]
theorem pow31 {s : Nat} (h : s ≤ 31) : 2 ^ s ≤ 2147483648 := by
  have := Nat.pow_le_pow_right (show 0 < 2 by omega) h
  simpa using this

theorem up_round {xs ds : List Nat} {s k c : Nat} (hs : s ≤ 31) (ha : dOk xs) (hk : k < ds.length) (h : UpR xs ds s k c) :
    ∃ p t u v : Nat, ((xs.getD k 0 : Nat) : Int) * ((2 ^ s : Nat) : Int) = p ∧ bits .or .u64 (c : Int) (p : Int) = (t : Int) ∧ (t : Int) % 4294967296 = u ∧ (t : Int) / 4294967296 = v ∧ p < 18446744073709551616 ∧ t < 18446744073709551616 ∧ v < 4294967296 ∧ UpR xs (ds.set k u) s (k + 1) v := by
  have h1 := upR_next ha hk (t := c + 2 ^ s * xs.getD k 0) rfl h
  have h2 := h.2.1
  have h3 := dOk_at ha k
  have h5 := pow31 hs
  have h6 := h1.2.1
  rw [bse_eq] at h1 h3 h6
  have hp : 2 ^ s * xs.getD k 0 ≤ 2147483648 * 4294967295 := Nat.mul_le_mul h5 (by omega)
  refine ⟨2 ^ s * xs.getD k 0, c + 2 ^ s * xs.getD k 0, _, _, by rw [← Int.natCast_mul, Nat.mul_comm], ?_, by rw [Int.natCast_emod]; rfl, by rw [Int.natCast_ediv]; rfl, by omega, by omega, by omega, h1⟩
  rw [or_u64 _ _ (by omega) (by omega), or_add h2]
/-- A row of the call's own that is not trimmed. -/
def RetRow (w : World) (n x : Nat) (e : Ending) (w' : World) : Prop := ∃ g ds, e = .returned (.slice (some ⟨g, 0, none⟩) n n) ∧ OwnU w' w.heap.size g n ds ∧ dOk ds ∧ dval ds = x ∧ Below w.heap.size w w'
set_option maxRecDepth 20000 in
set_option maxHeartbeats 1600000 in
theorem natUp_any (a1 : Option Addr) (c1 x s : Nat) (w : World) (hx : IsU32s w a1 (digs x).length (digs x)) (hb1 : (digs x).length < 1073741824) (hs : s ≤ 31) :
    Calls Tryz.prog 139 #[.slice a1 (digs x).length c1, .int .i64 (s : Nat)] w (RetRow w ((digs x).length + 1) (2 ^ s * x)) := by
  obtain ⟨i0, hi, hz0, hz1, hz2⟩ := info_parts Tryz.infoU
  have HC := Lib.hid (And.intro hx (And.intro (digs_ok x) (show 2 ^ s * dval (digs x) = 2 ^ s * x by rw [dval_digs])))
  obtain ⟨xs, hxs⟩ : ∃ xs, digs x = xs := ⟨_, rfl⟩
  rw [hxs] at HC hb1 ⊢
  obtain ⟨m, hm⟩ : ∃ m, xs.length = m := ⟨_, rfl⟩
  rw [hm] at HC hb1 ⊢
  have HL := Lib.hid hm
  have Hm := Lib.hid (zerosU (m + 1))
  obtain ⟨P, hP⟩ : ∃ P : Nat, (2 : Int) ^ s = (P : Int) := ⟨2 ^ s, by simp⟩
  have hPn : 2 ^ s = P := by
    have : ((2 ^ s : Nat) : Int) = (P : Int) := by rw [← hP]; simp
    omega
  have hP31 := pow31 hs
  rw [hPn] at hP31
  have HP := Lib.hid hPn
  clear hx hm hxs hPn
  go_enter Tryz.func139, Tryz.ntmps139
  go_wp2_with (at_make; refine wpList_make_full _ rfl _ _ 64 rfl w.heap.size 131 i0 (.int .u32 0) 1 Tryz.underlying64 hi hz0 hz1 _ _ _ _ (m + 1) rfl rfl ?cL ?cC ?c1 ?c2 ?c3 ?_)
  case cL => omega
  case cC => omega
  case c1 => rw [hz2]; omega
  case c2 => unfold maxLen; omega
  case c3 => exact Nat.le_refl _
  intro w1 hown hgrow
  have hbw : Below w.heap.size w w1 := (Below.refl _ w).grown hgrow (Nat.le_refl _) (by simp)
  have hown0 : OwnU w1 w.heap.size w.heap.size (m + 1) (List.replicate (m + 1) 0) := by
    unfold OwnU
    rw [← Hm.out]
    exact hown
  have HO := Lib.hid hown0
  have Hb := Lib.hid hbw
  clear hown hgrow hown0 hbw Hm
  go_wp2
  go_loopw [15, 6] (fun i c wr => ∃ (k cv : Nat) (ds : List Nat), k ≤ m ∧ i = .int .i64 (k : Nat) ∧ c = .int .u64 (cv : Nat) ∧ cv < 4294967296 ∧ Hid (UpR xs ds s k cv ∧ OwnU wr w.heap.size w.heap.size (m + 1) ds) ∧ Below w.heap.size w wr) (fun i _ _ => m - (intOf i).toNat)
  case atStart => exact ⟨0, 0, _, Nat.zero_le _, rfl, rfl, by omega, Lib.hid ⟨upR_start _ _ _, HO.out⟩, Hb.out⟩
  case round =>
    obtain ⟨k, cv, ds, hk, rfl, rfl, hcv, HR, hbr⟩ := hrel
    by_cases hlt : k < m
    · obtain ⟨b, off, ha, hc1⟩ := (HC.out.1.below hbr).at hlt
      subst ha
      have hk0 : (0:Int) ≤ (k:Int) := by omega
      have hk1 : (k:Int) < (m:Int) := by omega
      have hk2 : (k:Int) < (m:Int) + 1 := by omega
      have hs0 : (0:Int) ≤ (s:Int) := by omega
      have hs1 : (s:Int) ≤ 31 := by omega
      have hdl := HR.out.2.len
      have hcell := HR.out.2.at (show k < m + 1 by omega)
      have hfree := HR.out.2.free k
      obtain ⟨p, t, u, v, e1, e2, e3, e4, b1, b2, b3, hU⟩ := up_round hs HC.out.2.1 (show k < ds.length by omega) HR.out.1
      have hax := dOk_at HC.out.2.1 k
      have hdx := dOk_at HR.out.1.1 k
      rw [bse_eq] at hax hdx
      rw [HP.out] at e1
      obtain ⟨ak, hak⟩ : ∃ ak, xs.getD k 0 = ak := ⟨_, rfl⟩
      obtain ⟨ck, hck⟩ : ∃ ck, ds.getD k 0 = ck := ⟨_, rfl⟩
      rw [hak] at hc1 hax e1
      rw [hck] at hcell hdx
      have HN := Lib.hid (And.intro hU (HR.out.2.set k u))
      have Hb2 := Lib.hid hbr
      clear hbr hdl hU hak hck
      go_wp2
      go_roundw
      case rel => exact ⟨k + 1, v, ds.set k u, by omega, by go_num, rfl, b3, HN, Hb2.out.setCell (p := ⟨w.heap.size, k, none⟩) (Nat.le_refl _) _⟩
      case measure => simp [intOf]; omega
    · obtain rfl : k = m := by omega
      have hR := HR.out.1
      rw [← HL.out] at hR
      have hE := upR_end (by omega) (by rw [HR.out.2.len, HL.out]) hR
      rw [HL.out, HC.out.2.2] at hE
      have hcell := HR.out.2.at (show k < k + 1 by omega)
      have hfree := HR.out.2.free k
      obtain ⟨ck, hck⟩ : ∃ ck, ds.getD k 0 = ck := ⟨_, rfl⟩
      rw [hck] at hcell
      have HE := Lib.hid (And.intro hE (HR.out.2.set k cv))
      have Hb2 := Lib.hid hbr
      have hcm : (cv : Int) % 4294967296 = (cv : Int) := by omega
      clear hbr hR hE hck
      go_wp2
      go_ret
      exact ⟨w.heap.size, ds.set k cv, rfl, HE.out.2, HE.out.1.1, HE.out.1.2, Hb2.out.setCell (p := ⟨w.heap.size, k, none⟩) (Nat.le_refl _) _⟩
theorem down_round {xs ds : List Nat} {s i c : Nat} (hs : s ≤ 31) (ha : dOk xs) (hi : i < xs.length) (hl : ds.length = xs.length) (h : DownR xs ds s (i + 1) c) :
    ∃ p t u v : Nat, (c : Int) * 4294967296 = p ∧ bits .or .u64 (p : Int) ((xs.getD i 0 : Nat) : Int) = (t : Int) ∧ (t : Int) / ((2 ^ s : Nat) : Int) = u ∧ bits .and .u64 (t : Int) (((2 ^ s : Nat) : Int) - 1) = (v : Int) ∧ p < 18446744073709551616 ∧ t < 18446744073709551616 ∧ u < 4294967296 ∧ v < 2147483648 ∧ DownR xs (ds.set i u) s i v := by
  obtain ⟨h1, hu⟩ := downR_next ha (by omega) hi hl (t := c * bse + xs.getD i 0) rfl h
  have h2 := h.2.1
  have h3 := dOk_at ha i
  have h5 := pow31 hs
  have h6 := Nat.mod_lt (c * bse + xs.getD i 0) (Nat.two_pow_pos s)
  rw [bse_eq] at h1 h3 hu h6
  refine ⟨c * 4294967296, c * 4294967296 + xs.getD i 0, _, _, by rw [Int.natCast_mul]; rfl, ?_, by rw [Int.natCast_ediv], ?_, by omega, by omega, hu, by omega, h1⟩
  · rw [or_u64 _ _ (by omega) (by omega)]
    have := or_add (c := xs.getD i 0) (d := c) (s := 32) (by simpa using h3)
    rw [Nat.or_comm, show c * 4294967296 = 2 ^ 32 * c by rw [Nat.mul_comm], this, Nat.add_comm]
  · have hp := Nat.two_pow_pos s
    rw [show (((2 ^ s : Nat) : Int) - 1) = ((2 ^ s - 1 : Nat) : Int) by omega, and_u64 _ _ (by omega) (by omega), Nat.and_two_pow_sub_one_eq_mod]
/-- What is lost, and a number of any size. -/
def RetDown (w : World) (x : Nat) (e : Ending) (w' : World) : Prop := ∃ (r : Int) (a : Option Addr) (cap : Nat), e = .returned (.tuple #[.int .u32 r, .slice a (digs x).length cap]) ∧ (digs x).length ≤ cap ∧ IsU32s w' a (digs x).length (digs x) ∧ Below w.heap.size w w'
set_option maxRecDepth 20000 in
set_option maxHeartbeats 1600000 in
theorem natDown_any (a1 : Option Addr) (c1 x s : Nat) (w : World) (hx : IsU32s w a1 (digs x).length (digs x)) (hb1 : (digs x).length < 1073741824) (hs : s ≤ 31) :
    Calls Tryz.prog 141 #[.slice a1 (digs x).length c1, .int .i64 (s : Nat)] w (RetDown w (x / 2 ^ s)) := by
  obtain ⟨i0, hi, hz0, hz1, hz2⟩ := info_parts Tryz.infoU
  have HC := Lib.hid (And.intro hx (And.intro (digs_ok x) (dval_digs x)))
  obtain ⟨xs, hxs⟩ : ∃ xs, digs x = xs := ⟨_, rfl⟩
  rw [hxs] at HC hb1 ⊢
  obtain ⟨m, hm⟩ : ∃ m, xs.length = m := ⟨_, rfl⟩
  rw [hm] at HC hb1 ⊢
  have HL := Lib.hid hm
  have Hm := Lib.hid (zerosU m)
  obtain ⟨P, hP⟩ : ∃ P : Nat, (2 : Int) ^ s = (P : Int) := ⟨2 ^ s, by simp⟩
  have hPn : 2 ^ s = P := by
    have : ((2 ^ s : Nat) : Int) = (P : Int) := by rw [← hP]; simp
    omega
  have hP31 := pow31 hs
  have hP1 : 1 ≤ P := by rw [← hPn]; exact Nat.one_le_two_pow
  rw [hPn] at hP31
  have HP := Lib.hid hPn
  clear hx hm hxs hPn
  go_enter Tryz.func141, Tryz.ntmps141
  go_wp2_with (at_make; refine wpList_make_full _ rfl _ _ 64 rfl w.heap.size 131 i0 (.int .u32 0) 1 Tryz.underlying64 hi hz0 hz1 _ _ _ _ m rfl rfl rfl rfl ?c1 ?c2 ?c3 ?_)
  case c1 => rw [hz2]; omega
  case c2 => unfold maxLen; omega
  case c3 => exact Nat.le_refl _
  intro w1 hown hgrow
  have hbw : Below w.heap.size w w1 := (Below.refl _ w).grown hgrow (Nat.le_refl _) (by simp)
  have hown0 : OwnU w1 w.heap.size w.heap.size m (List.replicate m 0) := by
    unfold OwnU
    rw [← Hm.out]
    exact hown
  have HO := Lib.hid hown0
  have Hb := Lib.hid hbw
  clear hown hgrow hown0 hbw Hm
  go_wp2
  go_loopw [8, 7] (fun v c wr => ∃ (k cv : Nat) (i : Int) (ds : List Nat), Hid (i = (k : Int) - 1) ∧ k ≤ m ∧ -1 ≤ i ∧ i < m ∧ v = .int .i64 i ∧ c = .int .u64 (cv : Nat) ∧ cv < 2147483648 ∧ Hid (DownR xs ds s k cv ∧ OwnU wr w.heap.size w.heap.size m ds) ∧ Below w.heap.size w wr) (fun v _ _ => (intOf v + 1).toNat)
  case atStart => exact ⟨m, 0, _, _, Lib.hid rfl, Nat.le_refl _, by omega, by omega, rfl, rfl, by omega, Lib.hid ⟨by rw [← HL.out]; exact downR_start _ _, HO.out⟩, Hb.out⟩
  case round =>
    obtain ⟨k, cv, i, ds, HI, hk, hi1, hi2, rfl, rfl, hcv, HR, hbr⟩ := hrel
    by_cases h0 : 0 ≤ i
    · obtain ⟨j, rfl⟩ := Int.eq_ofNat_of_zero_le h0
      obtain rfl : k = j + 1 := by have := HI.out; omega
      have hj : j < m := by omega
      obtain ⟨b, off, ha, hc1⟩ := (HC.out.1.below hbr).at hj
      subst ha
      have hs0 : (0:Int) ≤ (s:Int) := by omega
      have hs1 : (s:Int) ≤ 31 := by omega
      have hdl := HR.out.2.len
      have hcell := HR.out.2.at hj
      have hfree := HR.out.2.free j
      obtain ⟨p, t, u, v, e1, e2, e3, e4, b1, b2, b3, b4, hU⟩ := down_round hs HC.out.2.1 (by rw [HL.out]; exact hj) (by rw [hdl, HL.out]) HR.out.1
      have hax := dOk_at HC.out.2.1 j
      rw [bse_eq] at hax
      rw [HP.out] at e3 e4
      obtain ⟨ak, hak⟩ : ∃ ak, xs.getD j 0 = ak := ⟨_, rfl⟩
      obtain ⟨ck, hck⟩ : ∃ ck, ds.getD j 0 = ck := ⟨_, rfl⟩
      rw [hak] at hc1 hax e2
      rw [hck] at hcell
      have HN := Lib.hid (And.intro hU (HR.out.2.set j u))
      have Hb2 := Lib.hid hbr
      have hum : (u : Int) % 4294967296 = (u : Int) := by omega
      clear hbr hdl hU hak hck HI
      go_wp2
      go_roundw
      case rel => exact ⟨j, v, _, ds.set j u, Lib.hid rfl, by omega, by omega, by omega, rfl, rfl, b4, HN, Hb2.out.setCell (p := ⟨w.heap.size, j, none⟩) (Nat.le_refl _) _⟩
      case measure => simp [intOf]
    · obtain rfl : k = 0 := by have := HI.out; omega
      have hE := downR_end HR.out.1
      rw [HC.out.2.2] at hE
      have HE := Lib.hid hE
      have Hb2 := Lib.hid hbr
      have hcm : (cv : Int) % 4294967296 = (cv : Int) := by omega
      clear hbr hE
      go_wp2_with fail
      refine (trim_own w.heap.size m ds w _ (by omega) HR.out.2 Hb2.out HR.out.1.1).mono ?_
      rintro e w' h
      rw [HE.out] at h
      obtain ⟨a, cap, rfl, h1, h2, h3⟩ := h
      have H := Lib.hid (And.intro h1 (And.intro h2 h3))
      clear h1 h2 h3
      go_wp2_with fail
      go_ret2
      exact ⟨cv, a, cap, rfl, H.out.1, H.out.2.1, H.out.2.2⟩
end Go.Proofs.YtaneocedklnajaaGreat

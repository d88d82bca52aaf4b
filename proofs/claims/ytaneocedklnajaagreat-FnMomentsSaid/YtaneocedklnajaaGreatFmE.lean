import Derived.Test.YtaneocedklnajaaGreatFmD
import Derived.Test.YtaneocedklnajaaGreatJlT
/- What the law FnMoments asks of the program's functions, at small laws. Conditions: as the statements say. -/
namespace Go.Proofs.YtaneocedklnajaaGreat
open Go.RowKit
set_option linter.unusedVariables false

/-- A law in a box. -/
structure LbM (w wr : World) (b : Nat) (a1 a2 : Option Addr) (N c1 c2 : Nat) (V F : List Int) : Prop where
  bx : C2 wr b (.slice a1 N c1) (.slice a2 N c2)
  val : IsInts wr a1 N V
  cha : IsInts wr a2 (N * 2) F
  bel : Below w.heap.size w wr
theorem LbM.all {w wr wx : World} {b : Nat} {a1 a2 : Option Addr} {N c1 c2 : Nat} {V F : List Int} (h : LbM w wr b a1 a2 N c1 c2 V F) (hb : Below wr.heap.size wr wx) : LbM w wx b a1 a2 N c1 c2 V F := ⟨h.bx.all hb, h.val.below hb, h.cha.below hb, bthen h.bel hb⟩
theorem LbM.new {w w1 : World} {a1 a2 : Option Addr} {N c1 c2 : Nat} {V F : List Int} (h1 : IsInts w1 a1 N V) (h2 : IsInts w1 a2 (N * 2) F) (hb : Below w.heap.size w w1) (t : Nat) : LbM w (w1.alloc (.cells #[.slice a1 N c1, .slice a2 N c2] t)) w1.heap.size a1 a2 N c1 c2 V F := by
  have hA : Below w1.heap.size w1 (w1.alloc (.cells #[.slice a1 N c1, .slice a2 N c2] t)) := (Below.refl _ _).alloc (Nat.le_refl _) _
  exact ⟨C2.new w1 t _ _, h1.below hA, h2.below hA, bthen hb hA⟩
/-- A fraction in a box behind a call that may stand ahead of it or behind it. -/
theorem fm_ordA {wr w7 : World} {t : Nat} {u v : Value} (hX : Below wr.heap.size wr w7) : C2 (w7.alloc (.cells #[u, v] t (0, 0))) w7.heap.size u v ∧ Below wr.heap.size wr (w7.alloc (.cells #[u, v] t (0, 0))) :=
  ⟨C2.new w7 t u v, bthen hX ((Below.refl _ w7).alloc (Nat.le_refl _) _)⟩
theorem fm_ordB {wr wc w7 : World} {b : Nat} {x y u v : Value} (h0 : C2 wc b x y) (hr : wr.heap.size ≤ b) (h1 : Below wr.heap.size wr wc) (hX : Below wc.heap.size wc w7) :
    C2 ((w7.setCell ⟨b, 0, none⟩ u).setCell ⟨b, 1, none⟩ v) b u v ∧ Below wr.heap.size wr ((w7.setCell ⟨b, 0, none⟩ u).setCell ⟨b, 1, none⟩ v) :=
  ⟨(h0.all hX).two u v, below_two (bthen h1 hX) hr u v⟩
theorem fm_both {P : Program} {f : Nat} {args : Array Value} {wB wx : World} {V : Value} (hb : Below wB.heap.size wB wx) (h : Calls P f args wx fun e w' => e = .returned V ∧ Below wx.heap.size wx w') : Calls P f args wx fun e w' => e = .returned V ∧ Hid (Below wx.heap.size wx w') ∧ Hid (Below wB.heap.size wB w') ∧
    (wB.heap.size < wx.heap.size → ∀ o, w'.cell? ⟨wB.heap.size, o, none⟩ = wx.cell? ⟨wB.heap.size, o, none⟩) ∧ (wB.heap.size < wx.heap.size → ∀ o, w'.frozen? ⟨wB.heap.size, o, none⟩ = wx.frozen? ⟨wB.heap.size, o, none⟩) :=
  h.mono fun e w' h => ⟨h.1, Lib.hid h.2, Lib.hid (bthen hb h.2), fun hl o => h.2.cell (p := ⟨wB.heap.size, o, none⟩) hl, fun hl o => h.2.frozen (p := ⟨wB.heap.size, o, none⟩) hl⟩
theorem fm_at {P : Program} {f N : Nat} {args : Array Value} {wx : World} (hN : 1 ≤ N) (h : Calls P f args wx fun e w' => ∃ x, e = .returned (.int .i64 x) ∧ 0 ≤ x ∧ (x < (N : Int) ∨ x = 0) ∧ wx = w') : Calls P f args wx fun e w' => ∃ i : Nat, i < N ∧ e = .returned (.int .i64 (i : Nat)) ∧ wx = w' :=
  h.mono fun e w' ⟨x, h1, h2, h3, h4⟩ => ⟨x.toNat, by omega, by rw [h1, Int.toNat_of_nonneg h2], h4⟩
theorem fm_cell {w : World} {g0 off N i : Nat} {vs : List Int} (h : IsInts w (some ⟨g0, off, none⟩) N vs) (hi : i < N) : w.cell? ⟨g0, off + i, none⟩ = some (.int .i64 (vs.getD i 0)) := by
  obtain ⟨g1, of1, e1, hc⟩ := h.at hi
  simp only [Option.some.injEq, Addr.mk.injEq] at e1
  obtain ⟨rfl, rfl, _⟩ := e1
  exact hc
/-- What b10At answers. -/
def bAt (zs : List Int) (k len : Nat) (n : Int) : Int := if n ≤ 1 then 0 else if k < len then zs.getD k 0 % n else ((k : Int) * 37 + 11) % n
theorem bAt_in (zs : List Int) (k len N : Nat) (h : 1 ≤ N) : ∃ i : Nat, i < N ∧ bAt zs k len (N : Int) = (i : Nat) := by
  unfold bAt
  by_cases h1 : (N : Int) ≤ 1
  · rw [if_pos h1]; exact ⟨0, by omega, rfl⟩
  · rw [if_neg h1]
    have h2 : ∀ x : Int, ∃ i : Nat, i < N ∧ x % (N : Int) = (i : Nat) := fun x => by
      have a := Int.emod_nonneg x (show (N : Int) ≠ 0 by omega)
      have b := Int.emod_lt_of_pos x (show (0 : Int) < N by omega)
      exact ⟨(x % (N : Int)).toNat, by omega, by omega⟩
    split
    · exact h2 _
    · exact h2 _
theorem b10At_val (a : Option Addr) (len cap : Nat) (zs : List Int) (k : Nat) (n : Int) (w : World) (hx : IsU8s w a len zs) (hk : k ≤ 1000) :
    Calls Tryz.prog 15 #[.slice a len cap, .int .i64 (k : Nat), .int .i64 n] w fun e w' => e = .returned (.int .i64 (bAt zs k len n)) ∧ w' = w := by
  unfold bAt
  by_cases h1 : n ≤ 1
  · rw [if_pos h1]
    go_enter Tryz.func15, Tryz.ntmps15
    go_wp2
    go_ret
    exact ⟨rfl, rfl⟩
  · rw [if_neg h1]
    have n0 : ¬ n = 0 := by omega
    have n1 : ¬ n = -1 := by omega
    by_cases h2 : k < len
    · rw [if_pos h2]
      obtain ⟨b, off, ha, hc⟩ := hx.at h2
      subst ha
      have hbd := hx.bd k
      obtain ⟨x, hxe⟩ : ∃ x, zs.getD k 0 = x := ⟨_, rfl⟩
      rw [hxe] at hc hbd ⊢
      clear hx hxe
      have k0 : (0:Int) ≤ (k:Int) := by omega
      have k1 : (k:Int) < (len:Int) := by omega
      go_enter Tryz.func15, Tryz.ntmps15
      go_wp2
      go_ret
      exact ⟨rfl, rfl⟩
    · rw [if_neg h2]
      have k1 : ¬ (k:Int) < (len:Int) := by omega
      have k0 : (0:Int) ≤ (k:Int) := by omega
      go_enter Tryz.func15, Tryz.ntmps15
      go_wp2
      go_ret
      exact ⟨rfl, rfl⟩
/-- The numbers of the chance of a value and of its level. -/
structure LvN (vs fs : List Int) (n i pn pd ln ld : Nat) : Prop where
  en : frN fs i = (pn : Nat)
  ed : frD fs i = (pd : Nat)
  lv : ∃ r : Rat, pickR fs (lvQ fs (pn : Nat) (pd : Nat)) n = r ∧ fitR r = true ∧ r.num = (ln : Nat) ∧ r.den = ld
  ok : vF (pn : Nat) (pd : Nat) = true
  okl : vF (ln : Nat) (ld : Nat) = true
  pos : ¬ (pn : Int) ≤ 0
  le : pn * ld ≤ ln * pd
  one : ln * 1 ≤ 1 * ld
theorem lvN_of {vs fs : List Int} {n i : Nat} (h : SmQ vs fs n) (hi : i < n) : ∃ pn pd ln ld, LvN vs fs n i pn pd ln ld := by
  obtain ⟨r, hr, hf, h0, h1, h2⟩ := lv_at h hi
  have hp := h.q.ok i hi
  have hn := h.q.pos i hi
  have hd : 0 ≤ frD fs i := by have := (vF_parts hp).2.1; omega
  obtain ⟨pn, hpn⟩ := Int.eq_ofNat_of_zero_le (Int.le_of_lt hn)
  obtain ⟨pd, hpd⟩ := Int.eq_ofNat_of_zero_le hd
  obtain ⟨ln, hln⟩ := Int.eq_ofNat_of_zero_le h0
  have hl := fit_vF hf
  rw [hpn, hpd] at hr hp
  rw [hpn, hpd, hln] at h1
  rw [hln] at h2 hl
  rw [hpn] at hn
  refine ⟨pn, pd, ln, r.den, hpn, hpd, ⟨r, hr, hf, hln, rfl⟩, hp, hl, by omega, by exact_mod_cast h1, by omega⟩
theorem fm_chance {vs fs : List Int} {n i pn pd ln ld : Nat} (hl : vs.length = n) (q : LawQ vs fs n) (hi : i < n) (h : LvN vs fs n i pn pd ln ld) (a1 a2 : Option Addr) (c1 c2 : Nat) (w : World) (h1 : IsInts w a1 n vs) (h2 : IsInts w a2 (n * 2) fs) :
    Calls Tryz.prog 16 #[.agg #[.slice a1 n c1, .slice a2 n c2], .int .i64 (vs.getD i 0)] w fun e w' => e = .returned (.tuple #[.agg #[.int .i64 (pn : Nat), .int .i64 (pd : Nat)], .bool true]) ∧ Below w.heap.size w w' := by
  have hn := q.n64
  have := chanceOf_any a1 a2 n n c1 c2 vs fs (vs.getD i 0) w (by omega) (by omega) h1 h2
  unfold chV at this
  rw [lawOk_of hl q, if_pos rfl, ch_at q hi, h.en, h.ed] at this
  exact this
theorem fm_level {vs fs : List Int} {n i pn pd ln ld : Nat} (hl : vs.length = n) (q : LawQ vs fs n) (hi : i < n) (h : LvN vs fs n i pn pd ln ld) (a1 a2 : Option Addr) (c1 c2 : Nat) (w : World) (h1 : IsInts w a1 n vs) (h2 : IsInts w a2 (n * 2) fs) :
    Calls Tryz.prog 17 #[.agg #[.slice a1 n c1, .slice a2 n c2], .int .i64 (vs.getD i 0)] w fun e w' => e = .returned (.tuple #[.agg #[.int .i64 (ln : Nat), .int .i64 (ld : Nat)], .bool true]) ∧ Below w.heap.size w w' := by
  have hn := q.n64
  have := levelOf_any a1 a2 n n c1 c2 vs fs (vs.getD i 0) w (by omega) (by omega) h1 h2
  unfold lrV at this
  obtain ⟨r, hr, hf, e1, e2⟩ := h.lv
  rw [lawOk_of hl q, if_pos rfl, ch_at q hi, h.en, h.ed] at this
  dsimp only at this
  rw [hr, fracV_yes hf, e1, e2] at this
  exact this
theorem fm_mean {vs fs : List Int} {n : Nat} {r : Rat} (hlo : lawOk vs fs n n = true) (hn : n ≤ 64) (hr : meR vs fs n = r) (hf : fitR r = true) (a1 a2 : Option Addr) (c1 c2 : Nat) (w : World) (h1 : IsInts w a1 n vs) (h2 : IsInts w a2 (n * 2) fs) :
    Calls Tryz.prog 19 #[.agg #[.slice a1 n c1, .slice a2 n c2]] w fun e w' => e = .returned (.tuple #[.agg #[.int .i64 r.num, .int .i64 (r.den : Nat)], .bool true]) ∧ Below w.heap.size w w' := by
  have := meanOf_any a1 a2 n n c1 c2 vs fs w (by omega) (by omega) h1 h2
  unfold lrV at this
  rw [hlo, if_pos rfl, show B30.sumW (B30.mnR vs fs) n = r from hr, fracV_yes hf] at this
  exact this
theorem fm_var {vs fs : List Int} {n : Nat} {r : Rat} (hlo : lawOk vs fs n n = true) (hn : n ≤ 64) (hr : varR vs fs n = r) (hf : fitR r = true) (a1 a2 : Option Addr) (c1 c2 : Nat) (w : World) (h1 : IsInts w a1 n vs) (h2 : IsInts w a2 (n * 2) fs) :
    Calls Tryz.prog 20 #[.agg #[.slice a1 n c1, .slice a2 n c2]] w fun e w' => e = .returned (.tuple #[.agg #[.int .i64 r.num, .int .i64 (r.den : Nat)], .bool true]) ∧ Below w.heap.size w w' := by
  have := varianceOf_any a1 a2 n n c1 c2 vs fs w (by omega) (by omega) h1 h2
  unfold lrV at this
  rw [hlo, if_pos rfl, hr, fracV_yes hf] at this
  exact this
theorem fm_add {r s : Rat} (h1 : fitR r = true) (h2 : fitR s = true) (h3 : fitR (r + s) = true) (w : World) :
    Calls Tryz.prog 22 #[.agg #[.int .i64 r.num, .int .i64 (r.den : Nat)], .agg #[.int .i64 s.num, .int .i64 (s.den : Nat)]] w fun e w' => e = .returned (.agg #[.int .i64 (r + s).num, .int .i64 ((r + s).den : Nat)]) ∧ Below w.heap.size w w' := by
  have e1 : mkRat r.num (Int.toNat (r.den : Nat)) = r := by rw [Int.toNat_natCast]; exact Rat.mkRat_self r
  have e2 : mkRat s.num (Int.toNat (s.den : Nat)) = s := by rw [Int.toNat_natCast]; exact Rat.mkRat_self s
  have := b10Add_any r.num (r.den : Nat) s.num (s.den : Nat) w (fit_vF h1) (fit_vF h2) (by rw [e1, e2]; exact h3)
  rw [e1, e2] at this
  exact this
/-- The law of both. -/
structure JoM (vs fs us gs : List Int) (m n L : Nat) (V F : List Int) : Prop where
  lo : lawOk V F L L = true
  len : V.length = L
  n64 : L ≤ 64
  me : meR V F L = meR vs fs m + meR us gs n
  va : varR V F L = varR vs fs m + varR us gs n
theorem joM_of {vs fs us gs : List Int} {m n : Nat} (q1 : LawQ vs fs m) (q2 : LawQ us gs n) (h : jOk vs fs us gs m n = true) : JoM vs fs us gs m n (jV vs us m n).length (jV vs us m n) (jF vs fs us gs m n) := by
  unfold jOk at h
  rw [Bool.and_eq_true, Bool.and_eq_true, decide_eq_true_eq] at h
  exact ⟨h.2.2, rfl, h.1, me_join q1.one q2.one, va_join q1.one q2.one⟩
/-- A fraction laid in a box. -/
theorem fm_box {w w1 : World} (hb : Below w.heap.size w w1) (u v : Value) (t : Nat) : ∃ b wA, w1.heap.size = b ∧ w1.alloc (.cells #[u, v] t) = wA ∧ C2 wA b u v ∧ Below w.heap.size w wA :=
  ⟨_, _, rfl, rfl, C2.new w1 t u v, bthen hb ((Below.refl _ w1).alloc (Nat.le_refl _) _)⟩
/-- A law is answered, and the answer true. -/
def RetJn (w : World) (L : Nat) (V F : List Int) (e : Ending) (w' : World) : Prop := ∃ a1 c1 a2 c2, e = .returned (.tuple #[.agg #[.slice a1 L c1, .slice a2 L c2], .bool true]) ∧ IsInts w' a1 L V ∧ IsInts w' a2 (L * 2) F ∧ Below w.heap.size w w'
def RetJo (w : World) (e : Ending) (w' : World) : Prop := ∃ a1 c1 a2 c2, e = .returned (.tuple #[.agg #[.slice a1 0 c1, .slice a2 0 c2], .bool false]) ∧ Below w.heap.size w w'
theorem RetLaw.jn {w w' : World} {V F : List Int} {L : Nat} {e : Ending} (hL : V.length = L) (h : RetLaw w true V F e w') : RetJn w L V F e w' := by
  subst hL
  obtain ⟨V1, C1, rfl, hl, hb⟩ := h
  obtain ⟨a1, c1, rfl⟩ := own_shape hl.val
  obtain ⟨a2, c2, rfl⟩ := own_shape hl.cha
  exact ⟨_, _, _, _, rfl, IsInts.of_own hl.val, IsInts.of_own2 hl.cha, hb⟩
theorem RetLaw.jo {w w' : World} {e : Ending} (h : RetLaw w false [] [] e w') : RetJo w e w' := by
  obtain ⟨V1, C1, rfl, hl, hb⟩ := h
  obtain ⟨a1, c1, rfl⟩ := own_shape hl.val
  obtain ⟨a2, c2, rfl⟩ := own_shape hl.cha
  exact ⟨_, _, _, _, rfl, hb⟩
/-- The contract of a sum of laws, at the two laws. -/
def JnC (f m n : Nat) (vs fs us gs : List Int) (R : World → Ending → World → Prop) : Prop := ∀ (a1 a2 u1 u2 : Option Addr) (c1 c2 d1 d2 : Nat) (w : World), IsInts w a1 m vs → IsInts w a2 (m * 2) fs → IsInts w u1 n us → IsInts w u2 (n * 2) gs →
  Calls Tryz.prog f #[.agg #[.slice a1 m c1, .slice a2 m c2], .agg #[.slice u1 n d1, .slice u2 n d2]] w (R w)
theorem JnC.at {f m n : Nat} {vs fs us gs : List Int} {R : World → Ending → World → Prop} (h : JnC f m n vs fs us gs R) {w0 w0' wx : World} {b b' : Nat} {a1 a2 u1 u2 : Option Addr} {c1 c2 d1 d2 : Nat} (h1 : LbM w0 wx b a1 a2 m c1 c2 vs fs) (h2 : LbM w0' wx b' u1 u2 n d1 d2 us gs) :
    Calls Tryz.prog f #[.agg #[.slice a1 m c1, .slice a2 m c2], .agg #[.slice u1 n d1, .slice u2 n d2]] wx (R wx) := h _ _ _ _ _ _ _ _ _ h1.val h1.cha h2.val h2.cha
theorem fm_join {vs fs us gs : List Int} {m n : Nat} (q1 : LawQ vs fs m) (q2 : LawQ us gs n) : (∃ L V F, JoM vs fs us gs m n L V F ∧ JnC 8 m n vs fs us gs (fun w => RetJn w L V F) ∧ JnC 6 m n vs fs us gs (fun w => RetJn w L V F)) ∨
    (JnC 8 m n vs fs us gs RetJo ∧ JnC 6 m n vs fs us gs RetJo) := by
  cases hk : jOk vs fs us gs m n with
  | true =>
    refine Or.inl ⟨_, _, _, joM_of q1 q2 hk, fun a1 a2 u1 u2 c1 c2 d1 d2 w h1 h2 k1 k2 => ?_, fun a1 a2 u1 u2 c1 c2 d1 d2 w h1 h2 k1 k2 => ?_⟩
    · have := joinI_any a1 a2 u1 u2 m c1 c2 n d1 d2 vs fs us gs w q1 q2 h1 h2 k1 k2
      rw [hk, if_pos rfl, if_pos rfl] at this
      exact this.mono fun e w' h => h.jn rfl
    · have := joinS_any a1 a2 u1 u2 m c1 c2 n d1 d2 vs fs us gs w q1 q2 h1 h2 k1 k2
      rw [hk, if_pos rfl, if_pos rfl] at this
      exact this.mono fun e w' h => h.jn rfl
  | false =>
    refine Or.inr ⟨fun a1 a2 u1 u2 c1 c2 d1 d2 w h1 h2 k1 k2 => ?_, fun a1 a2 u1 u2 c1 c2 d1 d2 w h1 h2 k1 k2 => ?_⟩
    · have := joinI_any a1 a2 u1 u2 m c1 c2 n d1 d2 vs fs us gs w q1 q2 h1 h2 k1 k2
      rw [hk, if_neg (by simp), if_neg (by simp)] at this
      exact this.mono fun e w' h => h.jo
    · have := joinS_any a1 a2 u1 u2 m c1 c2 n d1 d2 vs fs us gs w q1 q2 h1 h2 k1 k2
      rw [hk, if_neg (by simp), if_neg (by simp)] at this
      exact this.mono fun e w' h => h.jo
/-- The contract of a function of a law that answers with a fraction. -/
def MeC (f n : Nat) (V F : List Int) (p q : Int) : Prop := ∀ (a1 a2 : Option Addr) (c1 c2 : Nat) (w : World), IsInts w a1 n V → IsInts w a2 (n * 2) F →
  Calls Tryz.prog f #[.agg #[.slice a1 n c1, .slice a2 n c2]] w fun e w' => e = .returned (.tuple #[.agg #[.int .i64 p, .int .i64 q], .bool true]) ∧ Below w.heap.size w w'
theorem MeC.at {f n : Nat} {V F : List Int} {p q : Int} (h : MeC f n V F p q) {w0 wx : World} {b : Nat} {a1 a2 : Option Addr} {c1 c2 : Nat} (h1 : LbM w0 wx b a1 a2 n c1 c2 V F) :
    Calls Tryz.prog f #[.agg #[.slice a1 n c1, .slice a2 n c2]] wx fun e w' => e = .returned (.tuple #[.agg #[.int .i64 p, .int .i64 q], .bool true]) ∧ Below wx.heap.size wx w' := h _ _ _ _ _ h1.val h1.cha
/-- The contract of the sum of two fractions, at these. -/
def AdC (f : Nat) (p1 q1 p2 q2 p3 q3 : Int) : Prop := ∀ w, Calls Tryz.prog f #[.agg #[.int .i64 p1, .int .i64 q1], .agg #[.int .i64 p2, .int .i64 q2]] w fun e w' => e = .returned (.agg #[.int .i64 p3, .int .i64 q3]) ∧ Below w.heap.size w w'
theorem fm_means {vs fs us gs V F : List Int} {m n L : Nat} (l1 : vs.length = m) (l2 : us.length = n) (h1 : SmQ vs fs m) (h2 : SmQ us gs n) (hj : JoM vs fs us gs m n L V F) : ∃ p1 q1 p2 q2 p3 q3,
    MeC 19 m vs fs p1 q1 ∧ MeC 19 n us gs p2 q2 ∧ MeC 19 L V F p3 q3 ∧ AdC 22 p1 q1 p2 q2 p3 q3 := by
  obtain ⟨f1, f2, f3, f4, f5, f6⟩ := sm_fits h1 h2
  exact ⟨_, _, _, _, _, _, fun a1 a2 c1 c2 w => fm_mean (lawOk_of l1 h1.q) h1.q.n64 rfl f1 a1 a2 c1 c2 w, fun a1 a2 c1 c2 w => fm_mean (lawOk_of l2 h2.q) h2.q.n64 rfl f3 a1 a2 c1 c2 w, fun a1 a2 c1 c2 w => fm_mean hj.lo hj.n64 hj.me f5 a1 a2 c1 c2 w, fun w => fm_add f1 f3 f5 w⟩
theorem fm_vars {vs fs us gs V F : List Int} {m n L : Nat} (l1 : vs.length = m) (l2 : us.length = n) (h1 : SmQ vs fs m) (h2 : SmQ us gs n) (hj : JoM vs fs us gs m n L V F) : ∃ p1 q1 p2 q2 p3 q3,
    MeC 20 m vs fs p1 q1 ∧ MeC 20 n us gs p2 q2 ∧ MeC 20 L V F p3 q3 ∧ AdC 22 p1 q1 p2 q2 p3 q3 := by
  obtain ⟨f1, f2, f3, f4, f5, f6⟩ := sm_fits h1 h2
  exact ⟨_, _, _, _, _, _, fun a1 a2 c1 c2 w => fm_var (lawOk_of l1 h1.q) h1.q.n64 rfl f2 a1 a2 c1 c2 w, fun a1 a2 c1 c2 w => fm_var (lawOk_of l2 h2.q) h2.q.n64 rfl f4 a1 a2 c1 c2 w, fun a1 a2 c1 c2 w => fm_var hj.lo hj.n64 hj.va f6 a1 a2 c1 c2 w, fun w => fm_add f2 f4 f6 w⟩
/-- Boxes of two cells. -/
def Bx (w : World) (l : List (Nat × Value × Value)) : Prop := ∀ t, t ∈ l → C2 w t.1 t.2.1 t.2.2
theorem Bx.nil (w : World) : Bx w [] := fun _ h => absurd h List.not_mem_nil
theorem Bx.push {w : World} {l : List (Nat × Value × Value)} {b : Nat} {u v : Value} (h : Bx w l) (hc : C2 w b u v) : Bx w (l ++ [(b, u, v)]) := fun t ht => by
  rcases List.mem_append.1 ht with h1 | h1
  · exact h t h1
  · rw [List.mem_singleton] at h1; subst h1; exact hc
theorem Bx.all {w w' : World} {l : List (Nat × Value × Value)} (h : Bx w l) (hb : Below w.heap.size w w') : Bx w' l := fun t ht => (h t ht).all hb
theorem Bx.at {w : World} {l : List (Nat × Value × Value)} (h : Bx w l) (i : Nat) {b : Nat} {u v : Value} (hi : l[i]? = some (b, u, v)) : C2 w b u v := h (b, u, v) (List.mem_of_getElem? hi)
/-- A law of both is valid. -/
theorem fm_valid {w0 wx w : World} {V F : List Int} {L b c1 c2 : Nat} {a1 a2 : Option Addr} (hlo : lawOk V F L L = true) (h64 : L ≤ 64) (h : LbM w0 w b a1 a2 L c1 c2 V F) (hb : Below w.heap.size w wx) :
    Calls Tryz.prog 21 #[.agg #[.slice a1 L c1, .slice a2 L c2]] wx fun e w' => e = .returned (.bool true) ∧ Hid (Below w.heap.size w w') := by
  have := validLaw_any a1 a2 L L c1 c2 V F wx (by omega) (by omega) (h.val.below hb) (h.cha.below hb)
  rw [hlo] at this
  exact this.mono fun e w' h => ⟨h.1, Lib.hid (bthen hb h.2)⟩
theorem AdC.both {f : Nat} {p1 q1 p2 q2 p3 q3 : Int} (h : AdC f p1 q1 p2 q2 p3 q3) {w wx : World} (hb : Below w.heap.size w wx) : Calls Tryz.prog f #[.agg #[.int .i64 p1, .int .i64 q1], .agg #[.int .i64 p2, .int .i64 q2]] wx fun e w' => e = .returned (.agg #[.int .i64 p3, .int .i64 q3]) ∧ Hid (Below w.heap.size w w') :=
  (h wx).mono fun e w' h => ⟨h.1, Lib.hid (bthen hb h.2)⟩
/-- A cell that stands. -/
theorem C2.k0 {w w' : World} {b : Nat} {u v : Value} (h : C2 w b u v) (hb : Hid (Below w.heap.size w w')) : w'.cell? ⟨b, 0, none⟩ = some u := (h.all hb.out).c0
theorem C2.k1 {w w' : World} {b : Nat} {u v : Value} (h : C2 w b u v) (hb : Hid (Below w.heap.size w w')) : w'.cell? ⟨b, 1, none⟩ = some v := (h.all hb.out).c1
end Go.Proofs.YtaneocedklnajaaGreat

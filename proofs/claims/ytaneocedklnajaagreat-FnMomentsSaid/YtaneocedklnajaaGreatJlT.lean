import Derived.Test.YtaneocedklnajaaGreatJlS
/- The reference's sum of two laws: the walk. Condition: both are valid. -/
namespace Go.Proofs.YtaneocedklnajaaGreat
open Go.RowKit
set_option linter.unusedVariables false

theorem jl_disap {w : World} {B T sz n : Nat} {xs : List Value} {vL v v' : Value} (h : w.ownsRow B T sz vL n xs) (hd : Dis vL v) (hat : v'.ownBlock = v.ownBlock ∨ v'.ownBlock = some w.heap.size) : Dis vL v' := by
  unfold Dis at *
  rcases hat with e | e
  · rw [e]; exact hd
  · cases hL : vL.ownBlock with
    | none => exact Or.inl rfl
    | some g =>
      right
      rw [e]
      intro he
      simp only [Option.some.injEq] at he
      have := (h.lt g hL).2
      omega
/-- What the loops keep: values, chances, and the values once. -/
structure JsS (w2 wr : World) (vV vC vS : Value) (pv : Nat → Int) (pr : Nat → Rat) (nV nC nS : Nat) (xs : List Value) : Prop where
  val : wr.ownsRow w2.heap.size 2 1 vV nV (((List.range nV).map pv).map (Value.int .i64))
  own : wr.ownsRow w2.heap.size 55 6 vC nC xs
  el : ∀ j, j < nC → ∃ sg a1 a2 l1 c1 l2 c2 fine p q N D, B30.El wr vC xs j sg a1 a2 l1 c1 l2 c2 fine p q N D (pr j) 180 ∧ B30.Off a1 l1 vV ∧ B30.Off a2 l2 vV
  set : wr.ownsRow w2.heap.size 2 1 vS (setT pv nS).length ((setT pv nS).map (Value.int .i64))
  d1 : Dis vC vV
  d2 : Dis vS vV
  d3 : Dis vS vC
  bel : Below w2.heap.size w2 wr
theorem JsS.all {w2 wr wx : World} {vV vC vS : Value} {pv : Nat → Int} {pr : Nat → Rat} {nV nC nS : Nat} {xs : List Value} (h : JsS w2 wr vV vC vS pv pr nV nC nS xs) (hb : Below wr.heap.size wr wx) : JsS w2 wx vV vC vS pv pr nV nC nS xs :=
  ⟨own_below h.val hb, own_below h.own hb, fun j hj => by
    obtain ⟨sg, a1, a2, l1, c1, l2, c2, fine, p, q, N, D, e, o1, o2⟩ := h.el j hj
    exact ⟨sg, a1, a2, l1, c1, l2, c2, fine, p, q, N, D, ⟨e.e0, e.e1, e.e2, e.e3, e.e4, e.e5, e.wv.below hb, e.o1, e.o2, e.n, e.d⟩, o1, o2⟩, own_below h.set hb, h.d1, h.d2, h.d3, bthen h.bel hb⟩
theorem JsS.pushV {w2 wr w6 : World} {vV vC vS v6 : Value} {pv : Nat → Int} {pr : Nat → Rat} {nV nC nS : Nat} {xs : List Value} {J : Int} (h : JsS w2 wr vV vC vS pv pr nV nC nS xs) (hJ : pv nV = J)
    (hown : w6.ownsRow w2.heap.size 2 1 v6 (nV + 1) (((List.range nV).map pv).map (Value.int .i64) ++ [.int .i64 J])) (hg : wr.grownBy w6 vV.ownBlock) (hat : v6.ownBlock = vV.ownBlock ∨ v6.ownBlock = some wr.heap.size) : JsS w2 w6 v6 vC vS pv pr (nV + 1) nC nS xs := by
  refine ⟨?_, own_grown h.own hg h.d1, fun j hj => ?_, own_grown h.set hg h.d2, jl_disap h.own h.d1 hat, jl_disap h.set h.d2 hat, h.d3, below_grown h.bel h.val hg h.bel.size⟩
  · rw [List.range_succ, List.map_append, List.map_append]
    subst hJ
    exact hown
  · obtain ⟨sg, a1, a2, l1, c1, l2, c2, fine, p, q, N, D, e, o1, o2⟩ := h.el j hj
    exact ⟨sg, a1, a2, l1, c1, l2, c2, fine, p, q, N, D, ⟨e.e0, e.e1, e.e2, e.e3, e.e4, e.e5, ⟨B30.isBig_grow e.wv.n hg o1, B30.isBig_grow e.wv.d hg o2, e.wv.cn, e.wv.cd, e.wv.pos, e.wv.val, e.wv.fin⟩, e.o1, e.o2, e.n, e.d⟩, B30.off_new e.wv.n o1 hat, B30.off_new e.wv.d o2 hat⟩
theorem JsS.wl {w2 wr : World} {vV vC vS : Value} {pv : Nat → Int} {pr : Nat → Rat} {nV nC nS : Nat} {xs : List Value} (h : JsS w2 wr vV vC vS pv pr nV nC nS xs) : B30.WlI w2 nC vC pr 180 xs wr :=
  ⟨h.own, fun j hj => by
    obtain ⟨sg, a1, a2, l1, c1, l2, c2, fine, p, q, N, D, e, o1, o2⟩ := h.el j hj
    exact ⟨sg, a1, a2, l1, c1, l2, c2, fine, p, q, N, D, e⟩, h.bel⟩
theorem JsS.pushC {w2 wr w9 : World} {vV vC vS v' : Value} {pv : Nat → Int} {pr : Nat → Rat} {nV nC nS : Nat} {xs : List Value} {sg : Bool} {a1 a2 : Option Addr} {l1 c1 l2 c2 : Nat} {fine : Bool} {p q : Int} {N D : Nat} (h : JsS w2 wr vV vC vS pv pr nV nC nS xs)
    (hown : w9.ownsRow w2.heap.size 55 6 v' (nC + 1) (xs ++ [.bool sg, .slice a1 l1 c1, .slice a2 l2 c2, .bool fine, .int .i64 p, .int .i64 q])) (hg : wr.grownBy w9 vC.ownBlock) (hat : v'.ownBlock = vC.ownBlock ∨ v'.ownBlock = some wr.heap.size)
    (hv : B30.WvI wr a1 a2 l1 c1 l2 c2 sg fine p q N D (pr nC)) (h1 : B30.Off a1 l1 vC) (h2 : B30.Off a2 l2 vC) (k1 : B30.Off a1 l1 vV) (k2 : B30.Off a2 l2 vV) (hN : N < 2 ^ 180) (hD : D < 2 ^ 180) :
    JsS w2 w9 vV v' vS pv pr nV (nC + 1) nS (xs ++ [.bool sg, .slice a1 l1 c1, .slice a2 l2 c2, .bool fine, .int .i64 p, .int .i64 q]) := by
  have hlen := h.own.1
  refine ⟨own_grown h.val hg (dis_symm h.d1), hown, fun j hj => ?_, own_grown h.set hg h.d3, dis_symm (jl_disap h.val (dis_symm h.d1) hat), h.d2, jl_disap h.set h.d3 hat, below_grown h.bel h.own hg h.bel.size⟩
  rcases Nat.lt_or_ge j nC with hlt | hge
  · obtain ⟨sg, a1, a2, l1, c1, l2, c2, fine, p, q, N, D, e, o1, o2⟩ := h.el j hlt
    have hx : ∀ o, o < 6 → ∀ ys : List Value, (xs ++ ys)[j * 6 + o]? = xs[j * 6 + o]? := fun o ho ys => List.getElem?_append_left (by omega)
    exact ⟨sg, a1, a2, l1, c1, l2, c2, fine, p, q, N, D, ⟨(hx 0 (by omega) _).trans e.e0, (hx 1 (by omega) _).trans e.e1, (hx 2 (by omega) _).trans e.e2, (hx 3 (by omega) _).trans e.e3, (hx 4 (by omega) _).trans e.e4, (hx 5 (by omega) _).trans e.e5,
      ⟨B30.isBig_grow e.wv.n hg e.o1, B30.isBig_grow e.wv.d hg e.o2, e.wv.cn, e.wv.cd, e.wv.pos, e.wv.val, e.wv.fin⟩, B30.off_new e.wv.n e.o1 hat, B30.off_new e.wv.d e.o2 hat, e.n, e.d⟩, o1, o2⟩
  · obtain rfl : j = nC := by omega
    have hx : ∀ o, ∀ ys : List Value, (xs ++ ys)[j * 6 + o]? = ys[o]? := fun o ys => by
      rw [List.getElem?_append_right (by omega)]
      congr 1
      omega
    exact ⟨sg, a1, a2, l1, c1, l2, c2, fine, p, q, N, D, ⟨(hx 0 _).trans rfl, (hx 1 _).trans rfl, (hx 2 _).trans rfl, (hx 3 _).trans rfl, (hx 4 _).trans rfl, (hx 5 _).trans rfl,
      ⟨B30.isBig_grow hv.n hg h1, B30.isBig_grow hv.d hg h2, hv.cn, hv.cd, hv.pos, hv.val, hv.fin⟩, B30.off_new hv.n h1 hat, B30.off_new hv.d h2 hat, hN, hD⟩, k1, k2⟩
theorem JsS.put {w2 wr wx : World} {vV vC vS vS2 : Value} {pv : Nat → Int} {pr : Nat → Rat} {nV nC nS : Nat} {xs : List Value} {J : Int} (h : JsS w2 wr vV vC vS pv pr nV nC nS xs) (hJ : pv nS = J)
    (hown : wx.ownsRow wr.heap.size 2 1 vS2 (putL (setT pv nS) J).length ((putL (setT pv nS) J).map (Value.int .i64))) (hb : Below wr.heap.size wr wx) : JsS w2 wx vV vC vS2 pv pr nV nC (nS + 1) xs := by
  subst hJ
  have h' := h.all hb
  exact ⟨h'.val, h'.own, h'.el, own_mono hown h.bel.size, h'.d1, dis_symm (dis_new h.val hown (Nat.le_refl _)), dis_symm (dis_new h.own hown (Nat.le_refl _)), h'.bel⟩
theorem JsS.start (w2 : World) (pv : Nat → Int) (pr : Nat → Rat) : JsS w2 (((w2.alloc (.cells #[] 2)).alloc (.cells #[] 55)).alloc (.cells #[] 2)) (.slice (some ⟨w2.heap.size, 0, none⟩) 0 0) (.slice (some ⟨w2.heap.size + 1, 0, none⟩) 0 0) (.slice (some ⟨w2.heap.size + 1 + 1, 0, none⟩) 0 0) pv pr 0 0 0 [] := by
  have e1 : (w2.alloc (.cells #[] 2)).heap.size = w2.heap.size + 1 := alloc_size _ _
  have e2 : ((w2.alloc (.cells #[] 2)).alloc (.cells #[] 55)).heap.size = w2.heap.size + 1 + 1 := by rw [alloc_size, e1]
  have r1 := World.ownsRow_lit (base := w2.heap.size) (e := 2) (size := 1) w2 #[] 0 (Nat.le_refl _) (by decide) rfl
  have r2 := World.ownsRow_lit (base := w2.heap.size) (e := 55) (size := 6) (w2.alloc (.cells #[] 2)) #[] 0 (by omega) (by decide) rfl
  have r3 := World.ownsRow_lit (base := w2.heap.size) (e := 2) (size := 1) ((w2.alloc (.cells #[] 2)).alloc (.cells #[] 55)) #[] 0 (by omega) (by decide) rfl
  rw [e1] at r2
  rw [e2] at r3
  refine ⟨(r1.alloc _).alloc _, r2.alloc _, fun j hj => absurd hj (Nat.not_lt_zero _), r3, Or.inr ?_, Or.inr ?_, Or.inr ?_, (((Below.refl _ w2).alloc (Nat.le_refl _) _).alloc (by omega) _).alloc (by omega) _⟩
  · simp [Value.ownBlock]
  · simp [Value.ownBlock]; omega
  · simp [Value.ownBlock]
set_option maxRecDepth 100000 in
set_option maxHeartbeats 6400000 in
theorem joinS_any (a1 a2 u1 u2 : Option Addr) (m c1 c2 n d1 d2 : Nat) (vs fs us gs : List Int) (w : World) (hq1 : LawQ vs fs m) (hq2 : LawQ us gs n) (h1 : IsInts w a1 m vs) (h2 : IsInts w a2 (m * 2) fs) (k1 : IsInts w u1 n us) (k2 : IsInts w u2 (n * 2) gs) :
    Calls Tryz.prog 6 #[.agg #[.slice a1 m c1, .slice a2 m c2], .agg #[.slice u1 n d1, .slice u2 n d2]] w (RetLaw w (jOk vs fs us gs m n) (if jOk vs fs us gs m n then jV vs us m n else []) (if jOk vs fs us gs m n then jF vs fs us gs m n else [])) := by
  have H0 := Lib.hid (JaS.start (w := w) (V1 := .slice a1 m c1) (C1 := .slice a2 m c2) (V2 := .slice u1 n d1) (C2' := .slice u2 n d2) h1 h2 k1 k2 29)
  have hlo1 := lawOk_of h1.1 hq1
  have hlo2 := lawOk_of k1.1 hq2
  have hm64 := hq1.n64
  have hn64 := hq2.n64
  have hm1 := hq1.n1
  have hn1 := hq2.n1
  have HV1 := Lib.hid (fun (w : World) (b : Nat) h0 h1 h2 => by have := l05Is_any b a1 a2 m m c1 c2 vs fs w (by omega) (by omega) h0 h1 h2; rw [hlo1] at this; exact this)
  have HV2 := Lib.hid (fun (w : World) (b : Nat) h0 h1 h2 => by have := l05Is_any b u1 u2 n n d1 d2 us gs w (by omega) (by omega) h0 h1 h2; rw [hlo2] at this; exact this)
  have HQ := Lib.hid (And.intro hq1 hq2)
  clear h1 h2 k1 k2 hlo1 hlo2 hq1 hq2
  obtain ⟨ok, hok⟩ : ∃ ok, jOk vs fs us gs m n = ok := ⟨_, rfl⟩
  obtain ⟨RV, hrv⟩ : ∃ RV, (if jOk vs fs us gs m n = true then jV vs us m n else []) = RV := ⟨_, rfl⟩
  obtain ⟨RF, hrf⟩ : ∃ RF, (if jOk vs fs us gs m n = true then jF vs fs us gs m n else []) = RF := ⟨_, rfl⟩
  rw [hrv, hrf, hok]
  have HRES := Lib.hid (And.intro hok (And.intro hrv hrf))
  clear hok hrv hrf
  go_enter Tryz.func6, Tryz.ntmps6
  go_wp2_with fail
  obtain ⟨wA, hwA⟩ : ∃ w', ((w.alloc (.cells #[.slice a1 m c1, .slice a2 m c2] 29)).alloc (.cells #[.slice u1 n d1, .slice u2 n d2] 29)).alloc (.cells #[.slice none 0 0, .slice none 0 0] 29) = w' := ⟨_, rfl⟩
  rw [hwA] at H0 ⊢
  clear hwA
  refine (HV1.out _ _ H0.out.b0 H0.out.x1 H0.out.x2).mono ?_
  rintro e w1 ⟨rfl, hb⟩
  have H1 := Lib.hid (H0.out.all hb)
  clear hb H0
  go_wp2_with fail
  refine (HV2.out _ _ H1.out.b1 H1.out.y1 H1.out.y2).mono ?_
  rintro e w2 ⟨rfl, hb⟩
  have H2 := Lib.hid (H1.out.all hb)
  clear hb H1 HV1 HV2
  have hM := Nat.mul_le_mul hm64 hn64
  have hM0 : 0 < m * n := Nat.mul_pos hm1 hn1
  have HPV := Lib.hid (show ∀ i k, i < m → k < n → jpv vs us n (i * n + k) = vs.getD i 0 + us.getD k 0 from fun i k hi hk => by
    obtain ⟨e1, e2⟩ := pair_div (n := n) (i := i) hk
    unfold jpv; rw [e1, e2])
  have HPRO := Lib.hid (show ∀ i k, i < m → k < n → jpr fs gs n (i * n + k) = frR fs i * frR gs k from fun i k hi hk => by
    obtain ⟨e1, e2⟩ := pair_div (n := n) (i := i) hk
    unfold jpr; rw [e1, e2])
  have HSH := Lib.hid (show ∀ j T, T ≤ m * n → (idxT (jpv vs us n) j T).length ≤ 64 from fun j T hT => jidx_short HQ.out.1 HQ.out.2 j T hT)
  obtain ⟨pv, hpv⟩ : ∃ pv, jpv vs us n = pv := ⟨_, rfl⟩
  obtain ⟨pr, hpr⟩ : ∃ pr, jpr fs gs n = pr := ⟨_, rfl⟩
  rw [hpv] at HPV HSH
  rw [hpr] at HPRO
  have HDEF := Lib.hid (And.intro hpv hpr)
  clear hpv hpr
  obtain ⟨g1, o1, rfl, _⟩ := H2.out.x1.at (show 0 < m by omega)
  obtain ⟨g2, o2, rfl, _, _⟩ := fr_at H2.out.x2 (show 0 < m by omega)
  obtain ⟨g3, o3, rfl, _⟩ := H2.out.y1.at (show 0 < n by omega)
  obtain ⟨g4, o4, rfl, _, _⟩ := fr_at H2.out.y2 (show 0 < n by omega)
  have HJ0 := Lib.hid (JsS.start w2 pv pr)
  go_wp2_with fail
  obtain ⟨wB, hwB⟩ : ∃ w', ((w2.alloc (.cells #[] 2)).alloc (.cells #[] 55)).alloc (.cells #[] 2) = w' := ⟨_, rfl⟩
  obtain ⟨b2, hb2⟩ : ∃ b, w2.heap.size = b := ⟨_, rfl⟩
  rw [hwB, hb2] at HJ0
  rw [hwB, hb2]
  clear hwB hb2
  go_loopw [9, 6, 7, 8] (fun c v1 v2 v3 wr => ∃ (i : Nat) (aV : Option Addr) (cV : Nat) (aC : Option Addr) (cC : Nat) (aS : Option Addr) (cS : Nat) (xs : List Value), i ≤ m ∧ c = .int .i64 (i : Nat) ∧ v1 = .slice aV (i * n) cV ∧ v2 = .slice aC (i * n) cC ∧ v3 = .slice aS (setT pv (i * n)).length cS ∧ Hid (JsS w2 wr (.slice aV (i * n) cV) (.slice aC (i * n) cC) (.slice aS (setT pv (i * n)).length cS) pv pr (i * n) (i * n) (i * n) xs)) (fun c _ _ _ _ => m - (intOf c).toNat)
  case atStart => exact ⟨0, some ⟨b2, 0, none⟩, 0, some ⟨b2 + 1, 0, none⟩, 0, some ⟨b2 + 1 + 1, 0, none⟩, 0, [], Nat.zero_le _, rfl, by rw [Nat.zero_mul], by rw [Nat.zero_mul], by rw [Nat.zero_mul]; rfl, Lib.hid (by rw [Nat.zero_mul]; exact HJ0.out)⟩
  case round =>
    clear HJ0
    obtain ⟨i, aV, cV, aC, cC, aS, cS, xs, hile, rfl, rfl, rfl, rfl, HJ⟩ := hrel
    by_cases hlt : i < m
    · have hi0 : (0:Int) ≤ (i:Int) := by omega
      have hil : (i:Int) < (m:Int) := by omega
      have hxr := HQ.out.1.rng i hlt
      obtain ⟨x0, x1, x2, x3, x4⟩ := (H2.out.all HJ.out.bel).b0
      obtain ⟨x, hx⟩ : ∃ x, vs.getD i 0 = x := ⟨_, rfl⟩
      rw [hx] at hxr
      have HX := Lib.hid hx
      have HXR := Lib.hid hxr
      clear hx hxr
      go_wp2_with fail
      go_loopw [10, 6, 7, 8] (fun c v1 v2 v3 wr => ∃ (k : Nat) (aV : Option Addr) (cV : Nat) (aC : Option Addr) (cC : Nat) (aS : Option Addr) (cS : Nat) (xs : List Value), k ≤ n ∧ c = .int .i64 (k : Nat) ∧ v1 = .slice aV (i * n + k) cV ∧ v2 = .slice aC (i * n + k) cC ∧ v3 = .slice aS (setT pv (i * n + k)).length cS ∧ Hid (JsS w2 wr (.slice aV (i * n + k) cV) (.slice aC (i * n + k) cC) (.slice aS (setT pv (i * n + k)).length cS) pv pr (i * n + k) (i * n + k) (i * n + k) xs)) (fun c _ _ _ _ => n - (intOf c).toNat)
      case atStart => exact ⟨0, _, _, _, _, _, _, _, Nat.zero_le _, rfl, rfl, rfl, rfl, HJ⟩
      case round =>
        clear HJ x0 x1 x2 x3 x4
        obtain ⟨k, aV, cV, aC, cC, aS, cS, xs, hkle, rfl, rfl, rfl, rfl, HJ⟩ := hrel
        obtain ⟨y0, y1, y2, y3, y4⟩ := (H2.out.all HJ.out.bel).b1
        by_cases hkn : k < n
        · have hk0 : (0:Int) ≤ (k:Int) := by omega
          have hkl : (k:Int) < (n:Int) := by omega
          have hi : i < m := hlt
          have hT := pair_lt hlt hkn
          have HPJ0 := HPV.out i k hlt hkn
          have HPR0 := HPRO.out i k hlt hkn
          obtain ⟨y, hy⟩ : ∃ y, us.getD k 0 = y := ⟨_, rfl⟩
          have hyr := HQ.out.2.rng k hkn
          have hok1 := HQ.out.1.ok i hlt
          have hok2 := HQ.out.2.ok k hkn
          have HW1 := Lib.hid (fun w => B30.wideOf_any (frN fs i) (frD fs i) w hok1)
          have HW2 := Lib.hid (fun w => B30.wideOf_any (frN gs k) (frD gs k) w hok2)
          rw [hy] at hyr HPJ0
          rw [HX.out] at HPJ0
          have HSV : Hid (∀ w', Below w2.heap.size w2 w' → w'.cell? ⟨w.heap.size, 0, none⟩ = some (.slice (some ⟨g1, o1, none⟩) m c1) ∧ w'.cell? ⟨g1, o1 + i, none⟩ = some (.int .i64 x) ∧ w'.cell? ⟨w.heap.size + 1, 0, none⟩ = some (.slice (some ⟨g3, o3, none⟩) n d1) ∧ w'.cell? ⟨g3, o3 + k, none⟩ = some (.int .i64 y)) := Lib.hid (by
            intro w' hb
            have hJ := H2.out.all hb
            obtain ⟨g', o', e', c1'⟩ := hJ.x1.at hi
            obtain ⟨g'', o'', e'', c2'⟩ := hJ.y1.at hkn
            cases e'
            cases e''
            rw [HX.out] at c1'
            rw [hy] at c2'
            exact ⟨hJ.b0.c0, c1', hJ.b1.c0, c2'⟩)
          have HSF : Hid (∀ w', Below w2.heap.size w2 w' → w'.cell? ⟨w.heap.size, 1, none⟩ = some (.slice (some ⟨g2, o2, none⟩) m c2) ∧ w'.cell? ⟨g2, o2 + i * 2, none⟩ = some (.int .i64 (frN fs i)) ∧ w'.cell? ⟨g2, o2 + i * 2 + 1, none⟩ = some (.int .i64 (frD fs i)) ∧ w'.cell? ⟨w.heap.size + 1, 1, none⟩ = some (.slice (some ⟨g4, o4, none⟩) n d2) ∧ w'.cell? ⟨g4, o4 + k * 2, none⟩ = some (.int .i64 (frN gs k)) ∧ w'.cell? ⟨g4, o4 + k * 2 + 1, none⟩ = some (.int .i64 (frD gs k))) := Lib.hid (by
            intro w' hb
            have hJ := H2.out.all hb
            obtain ⟨g', o', e', c1', c2'⟩ := fr_at hJ.x2 hi
            obtain ⟨g'', o'', e'', c3', c4'⟩ := fr_at hJ.y2 hkn
            cases e'
            cases e''
            exact ⟨hJ.b0.c1, c1', c2', hJ.b1.c1, c3', c4'⟩)
          have HJ' := HJ.out
          obtain ⟨t, ht⟩ : ∃ t, i * n + k = t := ⟨_, rfl⟩
          have HT1 := Lib.hid (show i * n + (k + 1) = t + 1 by omega)
          rw [ht] at HJ' hT HPJ0 HPR0 ⊢
          have HJT := Lib.hid HJ'
          have HPJ := Lib.hid HPJ0
          have HPR := Lib.hid HPR0
          have HPU2 := Lib.hid (show putL (setT pv t) (x + y) = setT pv (t + 1) by rw [← HPJ0]; rfl)
          have hxr2 := HXR.out
          have hww : IntKind.i64.wrap (x + y) = x + y := IntWalk.i64_in _ (by omega)
          have ht4 : t < 4096 := by omega
          clear hyr hok1 hok2 HPJ0 HPR0 HJ' HJ hy ht hxr2
          go_wp2_with fail
          clear y0 y1 y2 y3 y4
          have HD1 := Lib.hid (HJT.out.all (Below.refl _ wr).drew)
          have hS := HSV.out wr.drew HD1.out.bel
          refine wp_region_any (by kernel_rfl) (any_of_K (k := 14) (S := fun w' => w'.cell? ⟨w.heap.size, 0, none⟩ = some (.slice (some ⟨g1, o1, none⟩) m c1) ∧ w'.cell? ⟨g1, o1 + i, none⟩ = some (.int .i64 x) ∧ w'.cell? ⟨w.heap.size + 1, 0, none⟩ = some (.slice (some ⟨g3, o3, none⟩) n d1) ∧ w'.cell? ⟨g3, o3 + k, none⟩ = some (.int .i64 y)) (T := fun _ => True) _ _ _ _ ?_)
          refine anyT_take (i := 0) (n := 14) (v := .slice aV t cV) rfl (by decide) (by kernel_rfl) (by kernel_rfl) (by kernel_rfl) (fun _ _ _ h => h) (Or.inl ⟨by kernel_rfl, fun w' hw => by go_simp⟩) hS trivial ?_
          refine anyT_take (i := 1) (n := 13) (v := .pointer (some ⟨w.heap.size, 0, none⟩)) rfl (by decide) (by kernel_rfl) (by kernel_rfl) (by kernel_rfl) (fun _ _ _ h => h) (Or.inl ⟨by kernel_rfl, fun w' hw => by go_simp⟩) hS trivial ?_
          refine anyK_take (i := 2) (n := 12) (v := .slice (some ⟨g1, o1, none⟩) m c1) rfl rfl (by kernel_rfl) (by kernel_rfl) (by kernel_rfl) (by kernel_rfl) (by kernel_rfl) (fun _ _ _ h => h) (Or.inl ⟨by kernel_rfl, fun w' hw => by (obtain ⟨z0, z1, z2, z3⟩ := hw; go_simp)⟩) hS trivial ?_
          refine anyT_take (i := 3) (n := 11) (v := .int .i64 (i : Nat)) rfl (by decide) (by kernel_rfl) (by kernel_rfl) (by kernel_rfl) (fun _ _ _ h => h) (Or.inl ⟨by kernel_rfl, fun w' hw => by go_simp⟩) hS trivial ?_
          refine anyT_take (i := 4) (n := 10) (v := .pointer (some ⟨g1, o1 + i, none⟩)) rfl (by decide) (by kernel_rfl) (by kernel_rfl) (by kernel_rfl) (fun _ _ _ h => h) (Or.inl ⟨by kernel_rfl, fun w' hw => by go_simp⟩) hS trivial ?_
          refine anyK_take (i := 5) (n := 9) (v := .int .i64 x) rfl rfl (by kernel_rfl) (by kernel_rfl) (by kernel_rfl) (by kernel_rfl) (by kernel_rfl) (fun _ _ _ h => h) (Or.inl ⟨by kernel_rfl, fun w' hw => by (obtain ⟨z0, z1, z2, z3⟩ := hw; go_simp)⟩) hS trivial ?_
          refine anyT_take (i := 6) (n := 8) (v := .pointer (some ⟨w.heap.size + 1, 0, none⟩)) rfl (by decide) (by kernel_rfl) (by kernel_rfl) (by kernel_rfl) (fun _ _ _ h => h) (Or.inl ⟨by kernel_rfl, fun w' hw => by go_simp⟩) hS trivial ?_
          refine anyK_take (i := 7) (n := 7) (v := .slice (some ⟨g3, o3, none⟩) n d1) rfl rfl (by kernel_rfl) (by kernel_rfl) (by kernel_rfl) (by kernel_rfl) (by kernel_rfl) (fun _ _ _ h => h) (Or.inl ⟨by kernel_rfl, fun w' hw => by (obtain ⟨z0, z1, z2, z3⟩ := hw; go_simp)⟩) hS trivial ?_
          refine anyT_take (i := 8) (n := 6) (v := .int .i64 (k : Nat)) rfl (by decide) (by kernel_rfl) (by kernel_rfl) (by kernel_rfl) (fun _ _ _ h => h) (Or.inl ⟨by kernel_rfl, fun w' hw => by go_simp⟩) hS trivial ?_
          refine anyT_take (i := 9) (n := 5) (v := .pointer (some ⟨g3, o3 + k, none⟩)) rfl (by decide) (by kernel_rfl) (by kernel_rfl) (by kernel_rfl) (fun _ _ _ h => h) (Or.inl ⟨by kernel_rfl, fun w' hw => by go_simp⟩) hS trivial ?_
          refine anyK_take (i := 10) (n := 4) (v := .int .i64 y) rfl rfl (by kernel_rfl) (by kernel_rfl) (by kernel_rfl) (by kernel_rfl) (by kernel_rfl) (fun _ _ _ h => h) (Or.inl ⟨by kernel_rfl, fun w' hw => by (obtain ⟨z0, z1, z2, z3⟩ := hw; go_simp)⟩) hS trivial ?_
          refine anyT_take (i := 11) (n := 3) (v := .int .i64 (x + y)) rfl (by decide) (by kernel_rfl) (by kernel_rfl) (by kernel_rfl) (fun _ _ _ h => h) (Or.inl ⟨by kernel_rfl, fun w' hw => by go_simp⟩) hS trivial ?_
          refine anyK_all (n := 2) (rs := [12]) (by kernel_rfl) (by simp) (fun i hi => ?_)
          simp only [List.mem_cons, List.not_mem_nil, or_false] at hi
          obtain rfl := hi
          refine wpOp_step rfl (fun K' hK => ?_)
          go_simp
          have HD2 := Lib.hid (HD1.out.all ((Below.refl _ _).alloc (Nat.le_refl _) (.cells #[.int .i64 (x + y)] 2)))
          refine hK _ _ ⟨fun _ _ => HSV.out _ HD2.out.bel, trivial, ?_⟩
          clear hK hS
          refine anyK_all (n := 1) (rs := [13]) (by kernel_rfl) (by simp) (fun i hi => ?_)
          simp only [List.mem_cons, List.not_mem_nil, or_false] at hi
          obtain rfl := hi
          refine wpOp_step rfl (fun K' hK => ?_)
          refine step_ap1 rfl (.tmp 35) (.tmp 47) 22 rfl w2.heap.size 2 (.int .i64 0) 8 Tryz.underlying22 Tryz.infoI rfl _ t _ rfl HD2.out.val _ (.int .i64 (x + y)) rfl (by go_simp) rfl (by omega) (by omega) HD2.out.bel.size ?_
          intro v6 w6 hown hgrow hat
          obtain ⟨aV6, cV6, rfl⟩ := own_shape hown
          have HD3 := Lib.hid (HD2.out.pushV HPJ.out hown hgrow hat)
          clear hown hgrow hat
          refine hK _ _ ⟨fun _ _ => HSV.out _ HD3.out.bel, trivial, ?_⟩
          clear hK HD2 HD1
          refine anyK_all (n := 0) (rs := [14]) (by kernel_rfl) (by simp) (fun i hi => ?_)
          simp only [List.mem_cons, List.not_mem_nil, or_false] at hi
          obtain rfl := hi
          refine wpOp_step rfl (fun K' hK => ?_)
          go_simp
          refine hK _ _ ⟨fun h => absurd rfl h, trivial, ?_⟩
          clear hK
          refine ⟨by kernel_rfl, ?_⟩
          go_wp2_with fail
          have HE1 := Lib.hid (HD3.out.all (Below.refl _ w6).drew)
          have hS := HSF.out w6.drew HE1.out.bel
          refine wp_region_any (by kernel_rfl) (any_of_K (k := 16) (S := fun w' => w'.cell? ⟨w.heap.size, 1, none⟩ = some (.slice (some ⟨g2, o2, none⟩) m c2) ∧ w'.cell? ⟨g2, o2 + i * 2, none⟩ = some (.int .i64 (frN fs i)) ∧ w'.cell? ⟨g2, o2 + i * 2 + 1, none⟩ = some (.int .i64 (frD fs i)) ∧ w'.cell? ⟨w.heap.size + 1, 1, none⟩ = some (.slice (some ⟨g4, o4, none⟩) n d2) ∧ w'.cell? ⟨g4, o4 + k * 2, none⟩ = some (.int .i64 (frN gs k)) ∧ w'.cell? ⟨g4, o4 + k * 2 + 1, none⟩ = some (.int .i64 (frD gs k))) (T := fun _ => True) _ _ _ _ ?_)
          refine anyT_take (i := 0) (n := 16) (v := .slice aC t cC) rfl (by decide) (by kernel_rfl) (by kernel_rfl) (by kernel_rfl) (fun _ _ _ h => h) (Or.inl ⟨by kernel_rfl, fun w' hw => by go_simp⟩) hS trivial ?_
          refine anyT_take (i := 1) (n := 15) (v := .pointer (some ⟨w.heap.size, 1, none⟩)) rfl (by decide) (by kernel_rfl) (by kernel_rfl) (by kernel_rfl) (fun _ _ _ h => h) (Or.inl ⟨by kernel_rfl, fun w' hw => by go_simp⟩) hS trivial ?_
          refine anyK_take (i := 2) (n := 14) (v := .slice (some ⟨g2, o2, none⟩) m c2) rfl rfl (by kernel_rfl) (by kernel_rfl) (by kernel_rfl) (by kernel_rfl) (by kernel_rfl) (fun _ _ _ h => h) (Or.inl ⟨by kernel_rfl, fun w' hw => by (obtain ⟨z0, z1, z2, z3, z4, z5⟩ := hw; go_simp)⟩) hS trivial ?_
          refine anyT_take (i := 3) (n := 13) (v := .int .i64 (i : Nat)) rfl (by decide) (by kernel_rfl) (by kernel_rfl) (by kernel_rfl) (fun _ _ _ h => h) (Or.inl ⟨by kernel_rfl, fun w' hw => by go_simp⟩) hS trivial ?_
          refine anyT_take (i := 4) (n := 12) (v := .pointer (some ⟨g2, o2 + i * 2, none⟩)) rfl (by decide) (by kernel_rfl) (by kernel_rfl) (by kernel_rfl) (fun _ _ _ h => h) (Or.inl ⟨by kernel_rfl, fun w' hw => by go_simp⟩) hS trivial ?_
          refine anyK_take (i := 5) (n := 11) (v := .agg #[.int .i64 (frN fs i), .int .i64 (frD fs i)]) rfl rfl (by kernel_rfl) (by kernel_rfl) (by kernel_rfl) (by kernel_rfl) (by kernel_rfl) (fun _ _ _ h => h) (Or.inl ⟨by kernel_rfl, fun w' hw => by (obtain ⟨z0, z1, z2, z3, z4, z5⟩ := hw; go_simp)⟩) hS trivial ?_
          refine anyT_take (i := 7) (n := 10) (v := .pointer (some ⟨w.heap.size + 1, 1, none⟩)) rfl (by decide) (by kernel_rfl) (by kernel_rfl) (by kernel_rfl) (fun _ _ _ h => h) (Or.inl ⟨by kernel_rfl, fun w' hw => by go_simp⟩) hS trivial ?_
          refine anyK_take (i := 8) (n := 9) (v := .slice (some ⟨g4, o4, none⟩) n d2) rfl rfl (by kernel_rfl) (by kernel_rfl) (by kernel_rfl) (by kernel_rfl) (by kernel_rfl) (fun _ _ _ h => h) (Or.inl ⟨by kernel_rfl, fun w' hw => by (obtain ⟨z0, z1, z2, z3, z4, z5⟩ := hw; go_simp)⟩) hS trivial ?_
          refine anyT_take (i := 9) (n := 8) (v := .int .i64 (k : Nat)) rfl (by decide) (by kernel_rfl) (by kernel_rfl) (by kernel_rfl) (fun _ _ _ h => h) (Or.inl ⟨by kernel_rfl, fun w' hw => by go_simp⟩) hS trivial ?_
          refine anyT_take (i := 10) (n := 7) (v := .pointer (some ⟨g4, o4 + k * 2, none⟩)) rfl (by decide) (by kernel_rfl) (by kernel_rfl) (by kernel_rfl) (fun _ _ _ h => h) (Or.inl ⟨by kernel_rfl, fun w' hw => by go_simp⟩) hS trivial ?_
          refine anyK_take (i := 11) (n := 6) (v := .agg #[.int .i64 (frN gs k), .int .i64 (frD gs k)]) rfl rfl (by kernel_rfl) (by kernel_rfl) (by kernel_rfl) (by kernel_rfl) (by kernel_rfl) (fun _ _ _ h => h) (Or.inl ⟨by kernel_rfl, fun w' hw => by (obtain ⟨z0, z1, z2, z3, z4, z5⟩ := hw; go_simp)⟩) hS trivial ?_
          refine anyK_all (n := 5) (rs := [6]) (by kernel_rfl) (by simp) (fun i hi => ?_)
          simp only [List.mem_cons, List.not_mem_nil, or_false] at hi
          obtain rfl := hi
          refine wpOp_step rfl (fun K' hK => ?_)
          go_simp
          refine (HW1.out _).mono ?_
          rintro e w5 ⟨s3, t1, t2, t3, t4, t5, t6, f3, p3, q3, N3, D3, rfl, hv3, ⟨hN3, hD3⟩, _, hb3⟩
          have HE2 := Lib.hid (HE1.out.all hb3)
          have HV3 := Lib.hid (And.intro hv3 (And.intro hN3 hD3))
          refine hK _ _ ⟨fun _ _ => HSF.out _ HE2.out.bel, trivial, ?_⟩
          clear hK hv3 hN3 hD3 hb3 hS HE1
          refine anyK_all (n := 4) (rs := [12]) (by kernel_rfl) (by simp) (fun i hi => ?_)
          simp only [List.mem_cons, List.not_mem_nil, or_false] at hi
          obtain rfl := hi
          refine wpOp_step rfl (fun K' hK => ?_)
          go_simp
          refine (HW2.out _).mono ?_
          rintro e w7 ⟨s4, r1, r2, r3, r4, r5, r6, f4, p4, q4, N4, D4, rfl, hv4, ⟨hN4, hD4⟩, _, hb4⟩
          have HE3 := Lib.hid (HE2.out.all hb4)
          have HWM := Lib.hid (B30.wideMul_any s3 s4 f3 f4 t1 t4 r1 r4 t2 t3 t5 t6 r2 r3 r5 r6 p3 q3 p4 q4 N3 D3 N4 D4 60 60 _ _ w7 (HV3.out.1.below hb4) hv4 HV3.out.2.1 HV3.out.2.2 hN4 hD4 (by decide) (by decide))
          refine hK _ _ ⟨fun _ _ => HSF.out _ HE3.out.bel, trivial, ?_⟩
          clear hK hv4 hN4 hD4 hb4 HE2 HV3
          refine anyK_all (n := 3) (rs := [13]) (by kernel_rfl) (by simp) (fun i hi => ?_)
          simp only [List.mem_cons, List.not_mem_nil, or_false] at hi
          obtain rfl := hi
          refine wpOp_step rfl (fun K' hK => ?_)
          go_simp
          refine HWM.out.mono ?_
          rintro e w8 ⟨s5, y1, y2, y3, y4, y5, y6, f5, p5, q5, N5, D5, rfl, hv5, ⟨hN5, hD5⟩, ⟨hA5, hA6⟩, hb5⟩
          have HE4 := Lib.hid (HE3.out.all hb5)
          have HV5 := Lib.hid (show B30.WvI w8 y1 y4 y2 y3 y5 y6 s5 f5 p5 q5 N5 D5 (pr t) ∧ (N5 < 2 ^ 180 ∧ D5 < 2 ^ 180) ∧ (B30.Off y1 y2 (.slice aC t cC) ∧ B30.Off y4 y5 (.slice aC t cC)) ∧ (B30.Off y1 y2 (.slice aV6 (t + 1) cV6) ∧ B30.Off y4 y5 (.slice aV6 (t + 1) cV6)) from
            ⟨by rw [HPR.out]; exact hv5, ⟨hN5, hD5⟩, ⟨B30.off_of_new HE3.out.own hA5 (Nat.le_refl _), B30.off_of_new HE3.out.own hA6 (Nat.le_refl _)⟩, ⟨B30.off_of_new HE3.out.val hA5 (Nat.le_refl _), B30.off_of_new HE3.out.val hA6 (Nat.le_refl _)⟩⟩)
          refine hK _ _ ⟨fun _ _ => HSF.out _ HE4.out.bel, trivial, ?_⟩
          clear hK hv5 hN5 hD5 hA5 hA6 hb5 HE3 HWM
          refine anyK_all (n := 2) (rs := [14]) (by kernel_rfl) (by simp) (fun i hi => ?_)
          simp only [List.mem_cons, List.not_mem_nil, or_false] at hi
          obtain rfl := hi
          refine wpOp_step rfl (fun K' hK => ?_)
          go_simp
          have hb8 : Below w8.heap.size w8 (w8.alloc (.cells #[.bool s5, .slice y1 y2 y3, .slice y4 y5 y6, .bool f5, .int .i64 p5, .int .i64 q5] 55)) := (Below.refl _ w8).alloc (Nat.le_refl _) _
          have HE5 := Lib.hid (HE4.out.all hb8)
          have HV8 := Lib.hid (And.intro (HV5.out.1.below hb8) HV5.out.2)
          have HC8 := Lib.hid (B30.C6.new w8 55 (.bool s5) (.slice y1 y2 y3) (.slice y4 y5 y6) (.bool f5) (.int .i64 p5) (.int .i64 q5))
          refine hK _ _ ⟨fun _ _ => HSF.out _ HE5.out.bel, trivial, ?_⟩
          clear hK hb8 HE4 HV5
          obtain ⟨wE, hwE⟩ : ∃ w', (w8.alloc (.cells #[.bool s5, .slice y1 y2 y3, .slice y4 y5 y6, .bool f5, .int .i64 p5, .int .i64 q5] 55)) = w' := ⟨_, rfl⟩
          obtain ⟨b8, hbb8⟩ : ∃ b, w8.heap.size = b := ⟨_, rfl⟩
          rw [hwE] at HE5 HV8
          rw [hwE, hbb8] at HC8
          rw [hwE, hbb8]
          clear hwE hbb8
          refine anyK_all (n := 1) (rs := [15]) (by kernel_rfl) (by simp) (fun i hi => ?_)
          simp only [List.mem_cons, List.not_mem_nil, or_false] at hi
          obtain rfl := hi
          refine wpOp_step rfl (fun K' hK => ?_)
          refine B30.step_ap6 rfl (.tmp 49) (.tmp 63) 52 rfl w2.heap.size 55 (.agg #[.bool false, .slice none 0 0, .slice none 0 0, .bool false, .int .i64 0, .int .i64 0]) 80 Tryz.underlying52 B30.infoWide rfl (.slice aC t cC) t xs rfl HE5.out.own b8 _ _ _ _ _ _ rfl HC8.out rfl (by omega) (by omega) HE5.out.bel.size ?_
          intro v9 w9 hown hgrow hat
          obtain ⟨aC9, cC9, rfl⟩ := own_shape hown
          have HE6 := Lib.hid (HE5.out.pushC hown hgrow hat HV8.out.1 HV8.out.2.2.1.1 HV8.out.2.2.1.2 HV8.out.2.2.2.1 HV8.out.2.2.2.2 HV8.out.2.1.1 HV8.out.2.1.2)
          refine hK _ _ ⟨fun _ _ => HSF.out _ HE6.out.bel, trivial, ?_⟩
          clear hK hown hgrow hat HE5 HV8 HC8 HD3
          refine anyK_all (n := 0) (rs := [16]) (by kernel_rfl) (by simp) (fun i hi => ?_)
          simp only [List.mem_cons, List.not_mem_nil, or_false] at hi
          obtain rfl := hi
          refine wpOp_step rfl (fun K' hK => ?_)
          go_simp
          refine hK _ _ ⟨fun h => absurd rfl h, trivial, ?_⟩
          clear hK
          refine ⟨by kernel_rfl, ?_⟩
          go_wp2_with fail
          have HF1 := Lib.hid (HE6.out.all (Below.refl _ w9).drew)
          have hS := HSV.out w9.drew HF1.out.bel
          have HPU := Lib.hid (l00Put_any aS (setT pv t).length cS (setT pv t) (x + y) w9.drew (by have := setT_len pv t; omega) (IsInts.of_own HF1.out.set))
          refine wp_region_any (by kernel_rfl) (any_of_K (k := 13) (S := fun w' => w'.cell? ⟨w.heap.size, 0, none⟩ = some (.slice (some ⟨g1, o1, none⟩) m c1) ∧ w'.cell? ⟨g1, o1 + i, none⟩ = some (.int .i64 x) ∧ w'.cell? ⟨w.heap.size + 1, 0, none⟩ = some (.slice (some ⟨g3, o3, none⟩) n d1) ∧ w'.cell? ⟨g3, o3 + k, none⟩ = some (.int .i64 y)) (T := fun _ => True) _ _ _ _ ?_)
          refine anyT_take (i := 0) (n := 13) (v := .slice aS (setT pv t).length cS) rfl (by decide) (by kernel_rfl) (by kernel_rfl) (by kernel_rfl) (fun _ _ _ h => h) (Or.inl ⟨by kernel_rfl, fun w' hw => by go_simp⟩) hS trivial ?_
          refine anyT_take (i := 1) (n := 12) (v := .pointer (some ⟨w.heap.size, 0, none⟩)) rfl (by decide) (by kernel_rfl) (by kernel_rfl) (by kernel_rfl) (fun _ _ _ h => h) (Or.inl ⟨by kernel_rfl, fun w' hw => by go_simp⟩) hS trivial ?_
          refine anyK_take (i := 2) (n := 11) (v := .slice (some ⟨g1, o1, none⟩) m c1) rfl rfl (by kernel_rfl) (by kernel_rfl) (by kernel_rfl) (by kernel_rfl) (by kernel_rfl) (fun _ _ _ h => h) (Or.inl ⟨by kernel_rfl, fun w' hw => by (obtain ⟨z0, z1, z2, z3⟩ := hw; go_simp)⟩) hS trivial ?_
          refine anyT_take (i := 3) (n := 10) (v := .int .i64 (i : Nat)) rfl (by decide) (by kernel_rfl) (by kernel_rfl) (by kernel_rfl) (fun _ _ _ h => h) (Or.inl ⟨by kernel_rfl, fun w' hw => by go_simp⟩) hS trivial ?_
          refine anyT_take (i := 4) (n := 9) (v := .pointer (some ⟨g1, o1 + i, none⟩)) rfl (by decide) (by kernel_rfl) (by kernel_rfl) (by kernel_rfl) (fun _ _ _ h => h) (Or.inl ⟨by kernel_rfl, fun w' hw => by go_simp⟩) hS trivial ?_
          refine anyK_take (i := 5) (n := 8) (v := .int .i64 x) rfl rfl (by kernel_rfl) (by kernel_rfl) (by kernel_rfl) (by kernel_rfl) (by kernel_rfl) (fun _ _ _ h => h) (Or.inl ⟨by kernel_rfl, fun w' hw => by (obtain ⟨z0, z1, z2, z3⟩ := hw; go_simp)⟩) hS trivial ?_
          refine anyT_take (i := 6) (n := 7) (v := .pointer (some ⟨w.heap.size + 1, 0, none⟩)) rfl (by decide) (by kernel_rfl) (by kernel_rfl) (by kernel_rfl) (fun _ _ _ h => h) (Or.inl ⟨by kernel_rfl, fun w' hw => by go_simp⟩) hS trivial ?_
          refine anyK_take (i := 7) (n := 6) (v := .slice (some ⟨g3, o3, none⟩) n d1) rfl rfl (by kernel_rfl) (by kernel_rfl) (by kernel_rfl) (by kernel_rfl) (by kernel_rfl) (fun _ _ _ h => h) (Or.inl ⟨by kernel_rfl, fun w' hw => by (obtain ⟨z0, z1, z2, z3⟩ := hw; go_simp)⟩) hS trivial ?_
          refine anyT_take (i := 8) (n := 5) (v := .int .i64 (k : Nat)) rfl (by decide) (by kernel_rfl) (by kernel_rfl) (by kernel_rfl) (fun _ _ _ h => h) (Or.inl ⟨by kernel_rfl, fun w' hw => by go_simp⟩) hS trivial ?_
          refine anyT_take (i := 9) (n := 4) (v := .pointer (some ⟨g3, o3 + k, none⟩)) rfl (by decide) (by kernel_rfl) (by kernel_rfl) (by kernel_rfl) (fun _ _ _ h => h) (Or.inl ⟨by kernel_rfl, fun w' hw => by go_simp⟩) hS trivial ?_
          refine anyK_take (i := 10) (n := 3) (v := .int .i64 y) rfl rfl (by kernel_rfl) (by kernel_rfl) (by kernel_rfl) (by kernel_rfl) (by kernel_rfl) (fun _ _ _ h => h) (Or.inl ⟨by kernel_rfl, fun w' hw => by (obtain ⟨z0, z1, z2, z3⟩ := hw; go_simp)⟩) hS trivial ?_
          refine anyT_take (i := 11) (n := 2) (v := .int .i64 (x + y)) rfl (by decide) (by kernel_rfl) (by kernel_rfl) (by kernel_rfl) (fun _ _ _ h => h) (Or.inl ⟨by kernel_rfl, fun w' hw => by go_simp⟩) hS trivial ?_
          refine anyK_all (n := 1) (rs := [12]) (by kernel_rfl) (by simp) (fun i hi => ?_)
          simp only [List.mem_cons, List.not_mem_nil, or_false] at hi
          obtain rfl := hi
          refine wpOp_step rfl (fun K' hK => ?_)
          go_simp
          refine HPU.out.mono ?_
          rintro e w10 ⟨aS2, cS2, rfl, hown, hb⟩
          have HF2 := Lib.hid (HF1.out.put HPJ.out hown hb)
          refine hK _ _ ⟨fun _ _ => HSV.out _ HF2.out.bel, trivial, ?_⟩
          clear hK hS hown hb HF1 HPU HE6
          refine anyK_all (n := 0) (rs := [13]) (by kernel_rfl) (by simp) (fun i hi => ?_)
          simp only [List.mem_cons, List.not_mem_nil, or_false] at hi
          obtain rfl := hi
          refine wpOp_step rfl (fun K' hK => ?_)
          go_simp
          refine hK _ _ ⟨fun h => absurd rfl h, trivial, ?_⟩
          clear hK
          refine ⟨by kernel_rfl, ?_⟩
          go_wp2_with fail
          rw [show putL (setT pv t) (x + y) = setT pv (t + 1) from HPU2.out] at HF2 ⊢
          go_roundw
          case rel => exact ⟨k + 1, aV6, cV6, aC9, cC9, aS2, cS2, _, by omega, by go_num, by rw [HT1.out], by rw [HT1.out], by rw [HT1.out], Lib.hid (by rw [HT1.out]; exact HF2.out)⟩
          case measure => simp [intOf]; omega
        · obtain rfl : k = n := by omega
          have hkl : ¬ (k:Int) < (k:Int) := by omega
          go_wp2_with fail
          go_roundw
          case rel => exact ⟨i + 1, aV, cV, aC, cC, aS, cS, xs, by omega, by go_num, by rw [Nat.succ_mul], by rw [Nat.succ_mul], by rw [Nat.succ_mul], Lib.hid (by rw [Nat.succ_mul]; exact HJ.out)⟩
          case measure => simp [intOf]; omega
    · obtain rfl : i = m := by omega
      have hil : ¬ (i:Int) < (i:Int) := by omega
      have hz : ∀ wx : World, LawAt wx w.heap.size (.slice none 0 0) (.slice none 0 0) [] [] := fun wx => ⟨⟨rfl, Or.inl ⟨rfl, rfl⟩⟩, ⟨rfl, Or.inl ⟨rfl, rfl⟩⟩, Or.inl rfl⟩
      have HZ := Lib.hid hz
      have HNO0 := Lib.hid (show jOk vs fs us gs i n = false → ok = false ∧ RV = [] ∧ RF = [] from fun hk =>
        ⟨by rw [← HRES.out.1, hk], by rw [← HRES.out.2.1, hk]; rfl, by rw [← HRES.out.2.2, hk]; rfl⟩)
      have HLEN := Lib.hid (show (jV vs us i n).length = (setT pv (i * n)).length by unfold jV; rw [HDEF.out.1])
      clear hz
      obtain ⟨x0, x1, x2, x3, x4⟩ := (H2.out.all HJ.out.bel).b0
      obtain ⟨z0, z1, z2, z3, z4⟩ := (H2.out.all HJ.out.bel).b2
      by_cases hbig : 64 < (setT pv (i * n)).length
      · have hbi : ((setT pv (i * n)).length : Int) > 64 := by omega
        have HNO := Lib.hid (HNO0.out (by unfold jOk; rw [decide_eq_false (by rw [HLEN.out]; omega)]; rfl))
        have HB := Lib.hid (bthen H2.out.bel HJ.out.bel)
        go_wp2_with fail
        refine bodyPost_ret (v := .tuple #[.agg #[.slice none 0 0, .slice none 0 0], .bool false]) (by simp [results, Tryz.results6, go_sem, *]) rfl ?_
        rw [HNO.out.1, HNO.out.2.1, HNO.out.2.2]
        exact ⟨_, _, rfl, HZ.out _, below_two HB.out (by omega) _ _⟩
      · have hbi : ¬ ((setT pv (i * n)).length : Int) > 64 := by omega
        have HGA := Lib.hid (gather_any aV (i * n) cV ((List.range (i * n)).map pv) aC cC pv pr wr hM0 (by omega) (IsInts.of_own HJ.out.val) (fun t ht => by rw [getD_eq _ _ (by simpa using ht)]; simp) HJ.out.wl.list HSH.out ok RV RF
          (by rw [← HRES.out.1]; unfold jOk gOk jF jR jV; rw [HDEF.out.1, HDEF.out.2, decide_eq_true (by omega)]; rfl)
          (by
            have e : ok = jOk vs fs us gs i n := HRES.out.1.symm
            rw [e, ← HRES.out.2.1]; unfold jV; rw [HDEF.out.1])
          (by
            have e : ok = jOk vs fs us gs i n := HRES.out.1.symm
            rw [e, ← HRES.out.2.2]; unfold jF jR jV; rw [HDEF.out.1, HDEF.out.2]))
        go_wp2_with fail
        refine HGA.out.mono ?_
        rintro e w7 ⟨V, C, rfl, hl, hb⟩
        obtain ⟨p1, e1, rfl⟩ := own_shape hl.val
        obtain ⟨p2, e2, rfl⟩ := own_shape hl.cha
        have hr2 : w.heap.size + 2 < wr.heap.size := (H2.out.all HJ.out.bel).b2.lt
        have HG := Lib.hid (And.intro ((jl_box hl hr2).mono (show w.heap.size ≤ wr.heap.size by omega)) (bthen (bthen H2.out.bel HJ.out.bel) hb))
        have hC7 := ((H2.out.all HJ.out.bel).all hb).b2
        clear z0 z1 z2 z3 z4 x0 x1 x2 x3 x4
        obtain ⟨z0, z1, z2, z3, z4⟩ := hC7
        clear hl hb
        go_wp2_with fail
        refine bodyPost_ret (v := .tuple #[.agg #[.slice p1 RV.length e1, .slice p2 RV.length e2], .bool ok]) (by simp [results, Tryz.results6, go_sem, *]) rfl ?_
        exact ⟨_, _, rfl, HG.out.1, below_two HG.out.2 (by omega) _ _⟩
end Go.Proofs.YtaneocedklnajaaGreat

import Derived.Test.YtddmglgogjaajaaTreeC
/- The cost of drawing by a tree: the program's walk. No condition. -/
namespace Go.Proofs.Ytddmglgogjaajaa
open Go.RowKit
set_option linter.unusedVariables false

/-- The state of the program's loop. -/
def TcI (w : World) (b4 go k : Nat) (ws : List Int) (m : Nat) (a1 a2 : Option Addr) (l1 l2 c1 c2 : Nat) (wr : World) : Prop :=
  C2 wr w.heap.size (.int .i64 0) (.int .i64 0) ∧ C3 wr b4 (.bool false) (.slice a1 l1 c1) (.slice a2 l2 c2) ∧ RawV wr a1 a2 l1 l2 (tcR ws k m).num.natAbs (tcR ws k m).den ∧ Lv wr go k ws ∧ Below w.heap.size w wr ∧ w.heap.size < b4 ∧ b4 < go
set_option maxRecDepth 20000 in
set_option maxHeartbeats 6400000 in
theorem treeCost_any (a : Option Addr) (len cap : Nat) (ws : List Int) (w : World) (hb : len ≤ 1048576) (hx : IsInts w a len ws) :
    Calls Try.prog 21 #[.slice a len cap] w fun e w' => e = .returned (tcV ws) ∧ Below w.heap.size w w' := by
  obtain rfl := hx.1
  have hag := dy_agree ws
  have hA : Below w.heap.size w (w.alloc (.cells #[.int .i64 0, .int .i64 0] 24)) := (Below.refl _ w).alloc (Nat.le_refl _) _
  have hnw := C2.new w 24 (.int .i64 0) (.int .i64 0)
  have HA := Lib.hid (And.intro hA (And.intro hnw (hx.below hA)))
  clear hA hnw
  cases h : treeOk ws with
  | false =>
    have h' := h
    unfold treeOk at h'
    rw [h'] at hag
    have H := Lib.hid (And.intro hag (show tcV ws = .tuple #[.agg #[.int .i64 0, .int .i64 0], .bool false] by unfold tcV; rw [h]; rfl))
    clear h h' hag
    go_enter Try.func21, Try.ntmps21
    go_wp2_with fail
    refine (isDyadic_any _ _ _ ws _ (by omega) HA.out.2.2).mono ?_
    rintro e w1 ⟨rfl, hb1⟩
    rw [H.out.1]
    have H1 := Lib.hid (And.intro (bthen HA.out.1 hb1) (HA.out.2.1.all hb1))
    obtain ⟨g0, g1, g2, g3, g4⟩ := H1.out.2
    clear hb1
    go_wp2_with fail
    refine bodyPost_ret (v := .tuple #[.agg #[.int .i64 0, .int .i64 0], .bool false]) (by simp [results, Try.results21, go_sem, *]) rfl ⟨by rw [H.out.2], ?_⟩
    exact (H1.out.1.setCell (p := ⟨w.heap.size, 0, none⟩) (Nat.le_refl _) _).setCell (p := ⟨w.heap.size, 1, none⟩) (Nat.le_refl _) _
  | true =>
    have h' := h
    unfold treeOk at h'
    rw [h'] at hag
    obtain ⟨k, hk, hl, ht, hs, hn, h0⟩ := dy_level hb (by simpa using h')
    have hV : tcV ws = .tuple #[.agg #[.int .i64 (tcR ws k (k + 1)).num, .int .i64 ((tcR ws k (k + 1)).den : Nat)], .bool true] := by unfold tcV; rw [h, if_pos rfl, hl]; rfl
    have H := Lib.hid (And.intro hag (And.intro hs (And.intro hn (And.intro h0 hV))))
    clear h h' hag hl ht hs hn h0 hV
    go_enter Try.func21, Try.ntmps21
    go_wp2_with fail
    refine (isDyadic_any _ _ _ ws _ (by omega) HA.out.2.2).mono ?_
    rintro e w1 ⟨rfl, hb1⟩
    rw [H.out.1]
    have H1 := Lib.hid (And.intro (bthen HA.out.1 hb1) (And.intro (HA.out.2.1.all hb1) (HA.out.2.2.below hb1)))
    clear hb1 HA
    go_wp2_with fail
    refine ((whole_any 0 w1 (by omega) (by omega)).mono fun e w' h => retR_raw (r := 0) rfl rfl rfl h).mono ?_
    rintro e w2 ⟨sg, a1, c1, l1, a2, c2, l2, rfl, hv, hb2, hsg⟩
    obtain rfl : sg = false := by rw [hsg]; rfl
    have H2 := Lib.hid (And.intro (bthen H1.out.1 hb2) (And.intro (H1.out.2.1.all hb2) (And.intro (H1.out.2.2.below hb2) hv)))
    have hlt2 : w.heap.size < w2.heap.size := H2.out.2.1.lt
    clear hv hb2 hsg H1
    go_wp2_with fail
    have hb3 : Below w2.heap.size w2 (w2.alloc (.cells #[.bool false, .slice a1 l1 c1, .slice a2 l2 c2] 63)) := (Below.refl _ w2).alloc (Nat.le_refl _) _
    have hn3 := C3.new w2 63 (.bool false) (.slice a1 l1 c1) (.slice a2 l2 c2)
    obtain ⟨w3, hw3⟩ : ∃ w', w2.alloc (.cells #[.bool false, .slice a1 l1 c1, .slice a2 l2 c2] 63) = w' := ⟨_, rfl⟩
    rw [hw3] at hb3 hn3 ⊢
    obtain ⟨b4, hb4⟩ : ∃ b, w2.heap.size = b := ⟨_, rfl⟩
    have H3 := Lib.hid (And.intro (bthen H2.out.1 hb3) (And.intro (H2.out.2.1.all hb3) (And.intro (H2.out.2.2.1.below hb3) (And.intro (H2.out.2.2.2.below hb3) hn3))))
    rw [hb4] at H3 hlt2 ⊢
    clear hb3 hn3 hw3 hb4 H2
    refine (leaves_any _ _ _ ws k _ H3.out.2.2.1 hk H.out.2.2.1 H.out.2.1 H.out.2.2.2.1).mono ?_
    rintro e w4 ⟨go, co, rs, rfl, hrs, hO⟩
    obtain ⟨hlv, hgo⟩ := lv_of hO hrs
    have hb34 : Below w3.heap.size w3 w4 := hO.2
    have H4 := Lib.hid (show TcI w b4 go k ws 0 a1 a2 l1 l2 c1 c2 w4 from ⟨H3.out.2.1.all hb34, H3.out.2.2.2.2.below H3.out.2.2.2.2.lt hb34 hb34.size, by rw [tcR_zero]; exact H3.out.2.2.2.1.below hb34, hlv, bthen H3.out.1 hb34, hlt2, Nat.lt_of_lt_of_le H3.out.2.2.2.2.lt hgo⟩)
    clear hrs hO hlv hgo hb34 H3
    go_wp2_with fail
    go_loopw [15] (fun i wr => ∃ (m : Nat) (a1 a2 : Option Addr) (l1 l2 c1 c2 : Nat), m ≤ k + 1 ∧ i = .int .i64 (m : Nat) ∧ Hid (TcI w b4 go k ws m a1 a2 l1 l2 c1 c2 wr)) (fun i _ => k + 1 - (intOf i).toNat)
    case atStart => exact ⟨0, a1, a2, l1, l2, c1, c2, Nat.zero_le _, rfl, H4⟩
    case round =>
      clear H4
      obtain ⟨m, a1, a2, l1, l2, c1, c2, hm, rfl, HT⟩ := hrel
      obtain ⟨q0, q1, q2, q3, q4, q5, q6⟩ := HT.out.2.1
      by_cases hlt : m < k + 1
      · obtain ⟨g, c, hcell⟩ := HT.out.2.2.2.1.2 m (by omega)
        have hll : (lvl ws k m).length ≤ 16 := Nat.le_trans (lvl_len ws k m) H.out.2.2.1
        obtain ⟨L, hL⟩ : ∃ L, (lvl ws k m).length = L := ⟨_, rfl⟩
        rw [hL] at hcell hll
        have HL := Lib.hid hL
        clear hL
        have hmi : (m : Int) < (k : Int) + 1 := by omega
        have hm0 : (0 : Int) ≤ (m : Int) := by omega
        go_wp2_with fail
        obtain ⟨P, hP⟩ : ∃ P, m * L = P := ⟨_, rfl⟩
        obtain ⟨Q, hQ⟩ : ∃ Q, 2 ^ m = Q := ⟨_, rfl⟩
        have hPb : P ≤ 208 := by rw [← hP]; exact Nat.mul_le_mul (show m ≤ 13 by omega) hll
        have hQb : Q ≤ 4096 := by rw [← hQ]; exact Nat.pow_le_pow_right (by omega) (show m ≤ 12 by omega)
        have hQ0 : 0 < Q := by rw [← hQ]; exact Nat.pow_pos (by omega)
        have hmul : IntKind.i64.wrap ((m : Int) * (L : Int)) = (P : Int) := by rw [← hP]; rw [IntWalk.i64_in _ (by rw [← Int.natCast_mul, hP]; omega)]; simp
        have hpow : (2 : Int) ^ m = (Q : Int) := by rw [← hQ]; simp
        have hpw : IntKind.i64.wrap (Q : Int) = (Q : Int) := IntWalk.i64_in _ (by omega)
        have HPQ := Lib.hid (And.intro hP hQ)
        clear hP hQ
        refine wp_region_any (by kernel_rfl) (any_of_K (k := 9) (S := fun w' => w'.cell? ⟨b4, 0, none⟩ = some (.bool false) ∧ w'.cell? ⟨b4, 1, none⟩ = some (.slice a1 l1 c1) ∧ w'.cell? ⟨b4, 2, none⟩ = some (.slice a2 l2 c2)) (T := fun _ => True) _ _ _ _ ?_)
        have hS : wr.drew.cell? ⟨b4, 0, none⟩ = some (.bool false) ∧ wr.drew.cell? ⟨b4, 1, none⟩ = some (.slice a1 l1 c1) ∧ wr.drew.cell? ⟨b4, 2, none⟩ = some (.slice a2 l2 c2) := ⟨q0, q1, q2⟩
        refine anyT_take (i := 1) (n := 9) (v := .int .i64 (m : Nat)) rfl (by decide) (by kernel_rfl) (by kernel_rfl) (by kernel_rfl) (fun _ _ _ h => h) (Or.inl ⟨by kernel_rfl, fun w' hw => by kernel_rfl⟩) hS trivial ?_
        refine anyT_take (i := 2) (n := 8) (v := .slice (some ⟨g, 0, none⟩) L c) rfl (by decide) (by kernel_rfl) (by kernel_rfl) (by kernel_rfl) (fun _ _ _ h => h) (Or.inl ⟨by kernel_rfl, fun w' hw => by kernel_rfl⟩) hS trivial ?_
        refine anyT_take (i := 5) (n := 7) (v := .int .i64 (m : Nat)) rfl (by decide) (by kernel_rfl) (by kernel_rfl) (by kernel_rfl) (fun _ _ _ h => h) (Or.inl ⟨by kernel_rfl, fun w' hw => by kernel_rfl⟩) hS trivial ?_
        refine anyK_take (i := 0) (n := 6) (v := .agg #[.bool false, .slice a1 l1 c1, .slice a2 l2 c2]) rfl rfl (by kernel_rfl) (by kernel_rfl) (by kernel_rfl) (by kernel_rfl) (by kernel_rfl) (fun _ _ _ h => h) (Or.inl ⟨by kernel_rfl, fun w' hw => by (obtain ⟨z1, z2, z3⟩ := hw; go_simp)⟩) hS trivial ?_
        refine anyT_take (i := 6) (n := 5) (v := .int .i64 (Q : Nat)) rfl (by decide) (by kernel_rfl) (by kernel_rfl) (by kernel_rfl) (fun _ _ _ h => h) (Or.inl ⟨by kernel_rfl, fun w' hw => by go_simp⟩) hS trivial ?_
        clear q0 q1 q2 q3 q4 q5 q6
        refine anyK_all (n := 4) (rs := [3]) (by kernel_rfl) (by simp) (fun i hi => ?_)
        simp only [List.mem_cons, List.not_mem_nil, or_false] at hi
        obtain rfl := hi
        refine wpOp_step rfl (fun K' hK => ?_)
        go_simp
        refine (length_any _ _ _ _).mono ?_
        rintro e w' ⟨rfl, rfl⟩
        refine hK _ _ ⟨fun _ _ => hS, trivial, ?_⟩
        clear hK
        refine anyT_take (i := 4) (n := 3) (v := .int .i64 (P : Nat)) rfl (by decide) (by kernel_rfl) (by kernel_rfl) (by kernel_rfl) (fun _ _ _ h => h) (Or.inl ⟨by kernel_rfl, fun w' hw => by go_simp⟩) hS trivial ?_
        clear hS
        have HT1 := Lib.hid (show TcI w b4 go k ws m a1 a2 l1 l2 c1 c2 wr.drew from ⟨HT.out.1.all (Below.refl _ wr).drew, HT.out.2.1.below HT.out.2.1.lt (Below.refl _ wr).drew (Nat.le_refl _), HT.out.2.2.1.below (Below.refl _ wr).drew, HT.out.2.2.2.1.below (Below.refl _ wr).drew, bthen HT.out.2.2.2.2.1 (Below.refl _ wr).drew, HT.out.2.2.2.2.2⟩)
        refine anyK_all (n := 2) (rs := [7]) (by kernel_rfl) (by simp) (fun i hi => ?_)
        simp only [List.mem_cons, List.not_mem_nil, or_false] at hi
        obtain rfl := hi
        refine wpOp_step rfl (fun K' hK => ?_)
        go_simp
        refine ((quotient_any (P : Int) Q wr.drew (by omega) (by omega) (by omega) hQ0).mono fun e w' h => retR_raw rfl rfl rfl h).mono ?_
        rintro e w6 ⟨sg, x1, i1, j1, x2, i2, j2, rfl, hv6, hb6, hsg⟩
        have hPn : 0 ≤ (mkRat (P : Int) Q).num := by rw [mk_num (Nat.ne_of_gt hQ0)]; exact Int.ediv_nonneg (by omega) (by omega)
        have hP8 : (mkRat (P : Int) Q).num.natAbs ≤ 208 ∧ (mkRat (P : Int) Q).den ≤ 4096 := by
          rw [mk_abs (Nat.ne_of_gt hQ0), mk_den (Nat.ne_of_gt hQ0), Int.natAbs_natCast]
          exact ⟨Nat.le_trans (Nat.div_le_self _ _) hPb, Nat.le_trans (Nat.div_le_self _ _) hQb⟩
        obtain rfl : sg = false := by rw [hsg]; exact decide_eq_false (by omega)
        have H6 := Lib.hid (And.intro hv6 (show TcI w b4 go k ws m a1 a2 l1 l2 c1 c2 w6 from ⟨HT1.out.1.all hb6, HT1.out.2.1.below HT1.out.2.1.lt hb6 hb6.size, HT1.out.2.2.1.below hb6, HT1.out.2.2.2.1.below hb6, bthen HT1.out.2.2.2.2.1 hb6, HT1.out.2.2.2.2.2⟩))
        refine hK _ _ ⟨fun _ _ => ⟨H6.out.2.2.1.c0, H6.out.2.2.1.c1, H6.out.2.2.1.c2⟩, trivial, ?_⟩
        clear hK hv6 hb6 hsg HT1
        refine anyK_all (n := 1) (rs := [8]) (by kernel_rfl) (by simp) (fun i hi => ?_)
        simp only [List.mem_cons, List.not_mem_nil, or_false] at hi
        obtain rfl := hi
        refine wpOp_step rfl (fun K' hK => ?_)
        go_simp
        have hsm := tcR_small (m := m) hk H.out.2.2.1 (by omega)
        have hge := tcR_nonneg ws k m
        have hsum : mkRat (sgn false ((tcR ws k m).num.natAbs * (mkRat (P : Int) Q).den) + sgn false ((mkRat (P : Int) Q).num.natAbs * (tcR ws k m).den)) ((tcR ws k m).den * (mkRat (P : Int) Q).den) = tcR ws k (m + 1) := by
          have e := rat_plus (tcR ws k m) (mkRat (P : Int) Q)
          rw [decide_eq_false (show ¬ (tcR ws k m).num < 0 by omega), decide_eq_false (show ¬ (mkRat (P : Int) Q).num < 0 by omega)] at e
          rw [e, ← tcR_succ (show m ≤ k by omega), HL.out, HPQ.out.1, HPQ.out.2]
        have hpl := plusR_raw false false a1 a2 x1 x2 c1 c2 i1 i2 l1 l2 j1 j2 (tcR ws k m).num.natAbs (tcR ws k m).den (mkRat (P : Int) Q).num.natAbs (mkRat (P : Int) Q).den w6 H6.out.2.2.2.1 H6.out.1 (by rw [← H6.out.2.2.2.1.e1]; have := dlen8 (n := (tcR ws k m).num.natAbs) (by omega); omega) (by rw [← H6.out.2.2.2.1.e2]; have := dlen8 (n := (tcR ws k m).den) (by omega); omega) (by rw [← H6.out.1.e1]; have := dlen8 (n := (mkRat (P : Int) Q).num.natAbs) (by omega); omega) (by rw [← H6.out.1.e2]; have := dlen8 (n := (mkRat (P : Int) Q).den) (by omega); omega) (Rat.den_pos _) (Rat.den_pos _)
        rw [hsum] at hpl
        clear hsum
        refine hpl.mono ?_
        rintro e w7 ⟨sg, y1, u1, v1, y2, u2, v2, rfl, hv7, hb7, hsg⟩
        have hge2 := tcR_nonneg ws k (m + 1)
        obtain rfl : sg = false := by rw [hsg]; exact decide_eq_false (by omega)
        have H7 := Lib.hid (And.intro hv7 (And.intro (H6.out.2.1.all hb7) (And.intro (H6.out.2.2.1.below H6.out.2.2.1.lt hb7 hb7.size) (And.intro (H6.out.2.2.2.2.1.below hb7) (And.intro (bthen H6.out.2.2.2.2.2.1 hb7) H6.out.2.2.2.2.2.2)))))
        refine hK _ _ ⟨fun _ _ => ⟨H7.out.2.2.1.c0, H7.out.2.2.1.c1, H7.out.2.2.1.c2⟩, trivial, ?_⟩
        clear hK hv7 hb7 hsg H6 hpl hsm hge hge2 hPn hP8
        refine anyK_all (n := 0) (rs := [9]) (by kernel_rfl) (by simp) (fun i hi => ?_)
        simp only [List.mem_cons, List.not_mem_nil, or_false] at hi
        obtain rfl := hi
        obtain ⟨r0, r1, r2, r3, r4, r5, r6⟩ := H7.out.2.2.1
        refine wpOp_step rfl (fun K' hK => ?_)
        go_simp
        refine hK _ _ ⟨fun h => absurd rfl h, trivial, ?_⟩
        clear hK
        refine ⟨by kernel_rfl, ?_⟩
        have hI : Ints w7 (set3 w7 b4 (.bool false) (.slice y1 v1 u1) (.slice y2 v2 u2)) := ints_set3 _ _ _ (by rw [r0]; simp) (by rw [r1]; simp) (by rw [r2]; simp)
        obtain ⟨hb4, hgo⟩ := H7.out.2.2.2.2.2
        have H8 := Lib.hid (show TcI w b4 go k ws (m + 1) y1 y2 v1 v2 u1 u2 (set3 w7 b4 (.bool false) (.slice y1 v1 u1) (.slice y2 v2 u2)) from ⟨?c2, ((H7.out.2.2.1.set0 _).set1 _).set2 _, H7.out.1.ints hI, ((H7.out.2.2.2.1.set (by omega) _).set (by omega) _).set (by omega) _, below_set3 H7.out.2.2.2.2.1 (by omega) _ _ _, hb4, hgo⟩)
        case c2 =>
          have e : ∀ o p, (⟨b4, o, none⟩ : Addr) ≠ ⟨w.heap.size, p, none⟩ := fun o p e => by injection e; omega
          obtain ⟨t0, t1, t2, t3, t4⟩ := H7.out.2.1
          unfold Proofs.Ytddmglgogjaajaa.set3
          refine ⟨?_, ?_, ?_, ?_, ?_⟩
          · rw [World.cell?_setCell_other _ _ _ _ (e 2 0), World.cell?_setCell_other _ _ _ _ (e 1 0), World.cell?_setCell_other _ _ _ _ (e 0 0)]; exact t0
          · rw [World.cell?_setCell_other _ _ _ _ (e 2 1), World.cell?_setCell_other _ _ _ _ (e 1 1), World.cell?_setCell_other _ _ _ _ (e 0 1)]; exact t1
          · rw [World.frozen?_setCell, World.frozen?_setCell, World.frozen?_setCell]; exact t2
          · rw [World.frozen?_setCell, World.frozen?_setCell, World.frozen?_setCell]; exact t3
          · rw [World.size_setCell, World.size_setCell, World.size_setCell]; exact t4
        clear r0 r1 r2 r3 r4 r5 r6 hI H7
        go_wp2
        go_roundw
        case rel => exact ⟨m + 1, y1, y2, v1, v2, u1, u2, by omega, by go_num, H8⟩
        case measure => simp [intOf]; omega
      · obtain rfl : m = k + 1 := by omega
        have hsm := tcR_small (m := k + 1) hk H.out.2.2.1 (by omega)
        have hge := tcR_nonneg ws k (k + 1)
        have hfr := fraction_raw (tcR ws k (k + 1)) a1 a2 c1 c2 l1 l2 _ _ wr (by omega) rfl HT.out.2.2.1 (by rw [← HT.out.2.2.1.e1]; have := dlen8 (n := (tcR ws k (k + 1)).num.natAbs) (by omega); omega) (by rw [← HT.out.2.2.1.e2]; have := dlen8 (n := (tcR ws k (k + 1)).den) (by omega); omega)
        rw [fracV_yes (show fitR (tcR ws k (k + 1)) = true by unfold fitR; rw [decide_eq_true (by omega), decide_eq_true (by omega)]; rfl)] at hfr
        have HFR := Lib.hid hfr
        have hmk : ¬ ((k + 1 : Nat) : Int) < (k : Int) + 1 := by omega
        clear hsm hge hfr
        go_wp2_with fail
        refine HFR.out.mono ?_
        rintro e w5 ⟨rfl, hb5⟩
        have H5 := Lib.hid (And.intro (bthen HT.out.2.2.2.2.1 hb5) (HT.out.1.all hb5))
        obtain ⟨t0, t1, t2, t3, t4⟩ := H5.out.2
        clear hb5 q0 q1 q2 q3 q4 q5 q6
        go_wp2_with fail
        refine bodyPost_ret (v := .tuple #[.agg #[.int .i64 (tcR ws k (k + 1)).num, .int .i64 ((tcR ws k (k + 1)).den : Nat)], .bool true]) (by simp [results, Try.results21, go_sem, *]) rfl ⟨by rw [H.out.2.2.2.2], ?_⟩
        exact (H5.out.1.setCell (p := ⟨w.heap.size, 0, none⟩) (Nat.le_refl _) _).setCell (p := ⟨w.heap.size, 1, none⟩) (Nat.le_refl _) _
end Go.Proofs.Ytddmglgogjaajaa

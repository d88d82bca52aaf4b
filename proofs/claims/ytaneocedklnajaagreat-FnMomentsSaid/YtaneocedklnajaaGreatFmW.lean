import Derived.Test.YtaneocedklnajaaGreatFmE
/- The law FnMoments: the walk. Condition: none. -/
namespace Go.Proofs.YtaneocedklnajaaGreat
open Go.RowKit
set_option linter.unusedVariables false

set_option maxRecDepth 100000 in
set_option maxHeartbeats 6400000 in
theorem fnMoments_walk (a a' : Option Addr) (len cap len' cap' : Nat) (bs bs' : List Int) (w : World) (hx : IsU8s w a len bs) (hx' : IsU8s w a' len' bs') :
    Calls Tryz.prog 4 #[.slice a len cap, .slice a' len' cap'] w fun e w' => e = .returned (.bool true) ∧ Below w.heap.size w w' := by
  cases hlong : (decide (1048576 < len) || decide (1048576 < len')) with
  | true =>
    go_enter Tryz.func4, Tryz.ntmps4
    go_wp2_with fail
    refine (b10Long_any _ _ _ _ _ _ _).mono ?_
    rintro e w' ⟨rfl, rfl⟩
    rw [hlong]
    go_wp2_with fail
    go_ret
    exact ⟨rfl, Below.refl _ _⟩
  | false =>
    have hlen : len < 1000000000 := by simp at hlong; omega
    have hlen' : len' < 1000000000 := by simp at hlong; omega
    have HX := Lib.hid hx
    have HX' := Lib.hid hx'
    have HL := Lib.hid hlong
    clear hx hx' hlong
    go_enter Tryz.func4, Tryz.ntmps4
    go_wp2_with fail
    refine (b10Long_any _ _ _ _ _ _ _).mono ?_
    rintro e w' ⟨rfl, rfl⟩
    rw [HL.out]
    go_wp2_with fail
    refine (specB10Law_any _ _ _ _ _ HX.out hlen).mono ?_
    rintro e w1 ⟨a1, c1, a2, c2, vs, fs, rfl, hL, hs, hb⟩
    have H1 := Lib.hid (LbM.new (c1 := c1) (c2 := c2) (IsInts.of_own hL.val) (IsInts.of_own2 hL.cha) hb 29)
    have HX2 := Lib.hid ((HX'.out.below hb).below (al_belM w1 (.cells #[.slice a1 vs.length c1, .slice a2 vs.length c2] 29)))
    clear hL hb
    obtain ⟨N, hN⟩ : ∃ n, vs.length = n := ⟨_, rfl⟩
    rw [hN] at H1 HX2 hs
    rw [hN]
    have HS1 := Lib.hid (And.intro hs hN)
    clear hN hs
    go_wp2_with fail
    obtain ⟨b5, hb5⟩ : ∃ b, w1.heap.size = b := ⟨_, rfl⟩
    obtain ⟨wA, hwA⟩ : ∃ w', w1.alloc (.cells #[.slice a1 N c1, .slice a2 N c2] 29) = w' := ⟨_, rfl⟩
    rw [hwA, hb5] at H1
    rw [hwA] at HX2
    rw [hwA, hb5]
    clear hwA hb5
    refine (specB10Law_any _ _ _ _ _ HX2.out hlen').mono ?_
    rintro e w2 ⟨u1, d1, u2, d2, us, gs, rfl, hL, hs, hb⟩
    have hA2 := al_belM w2 (.cells #[.slice u1 us.length d1, .slice u2 us.length d2] 29)
    have H2 := Lib.hid (And.intro ((H1.out.all hb).all hA2) (And.intro (LbM.new (c1 := d1) (c2 := d2) (IsInts.of_own hL.val) (IsInts.of_own2 hL.cha) (bthen H1.out.bel hb) 29) ((HX2.out.below hb).below hA2)))
    obtain ⟨x0, x1, x2, x3, x4⟩ := (H1.out.all hb).bx
    clear hL hb hA2
    obtain ⟨M, hM⟩ : ∃ n, us.length = n := ⟨_, rfl⟩
    rw [hM] at H2 hs
    rw [hM]
    have HS2 := Lib.hid (And.intro hs hM)
    clear hM hs H1 HX2
    go_upto_region 6 with fail
    obtain ⟨b6, hb6⟩ : ∃ b, w2.heap.size = b := ⟨_, rfl⟩
    obtain ⟨wB, hwB⟩ : ∃ w', w2.alloc (.cells #[.slice u1 M d1, .slice u2 M d2] 29) = w' := ⟨_, rfl⟩
    rw [hwB, hb6] at H2
    rw [hwB]
    try rw [hb6]
    clear hwB hb6 x0 x1 x2 x3 x4
    have hN1 : 1 ≤ N := HS1.out.1.q.n1
    have HT := Lib.hid (fun (wx : World) (v : Int) (h1 : IsInts wx a1 N vs) (h2 : IsInts wx a2 (N * 2) fs) => tailOf_any a1 a2 N N c1 c2 vs fs v wx (by have := HS1.out.1.q.n64; omega) (by have := HS1.out.1.q.n64; omega) h1 h2)
    have HT1 := Lib.hid (fun (wx : World) (hb : Below wB.heap.size wB wx) => by have := HT.out wx (vs.getD 0 0) (H2.out.1.val.below hb) (H2.out.1.cha.below hb); rw [tl_first HS1.out.2 HS1.out.1.q] at this; exact fm_both hb this)
    obtain ⟨g0, off, rfl, hc0⟩ := H2.out.1.val.at (show 0 < N by omega)
    obtain ⟨v0, hv0⟩ : ∃ v, vs.getD 0 0 = v := ⟨_, rfl⟩
    rw [hv0] at HT1 hc0
    simp only [Nat.add_zero] at hc0
    have hg0 := World.block_lt_of_cell? wB _ hc0
    simp only at hg0
    obtain ⟨x0, x1, x2, x3, x4⟩ := H2.out.1.bx
    go_cut [8, 9] (fun v8 v9 wc => ∃ b8 : Nat, v8 = .pointer (some ⟨b8, 0, none⟩) ∧ v9 = .bool true ∧ Hid (C2 wc b8 (.int .i64 1) (.int .i64 1) ∧ Below wB.heap.size wB wc))
    case first =>
      have hNz : 0 < N := by omega
      have hda : ∀ o, (wB.alloc o).drew.heap.size = wB.heap.size + 1 := fun o => alloc_size wB o
      have hds : ∀ o, (wB.drew.alloc o).heap.size = wB.heap.size + 1 := fun o => alloc_size wB.drew o
      have hn0 := World.new_ne wB _ x0
      have hn1 := World.new_ne wB _ hc0
      simp at hn0 hn1
      go_region_held3 (fun w' => w'.cell? ⟨b5, 0, none⟩ = some (.slice (some ⟨g0, off, none⟩) N c1) ∧ w'.cell? ⟨b5, 1, none⟩ = some (.slice a2 N c2) ∧ w'.cell? ⟨g0, off, none⟩ = some (.int .i64 v0) ∧ b5 < w'.heap.size ∧ g0 < w'.heap.size)
        ((repeat' refine And.intro ?_ ?_) <;> first | assumption | (go_keep; done) | (go_keep; omega))
        (first | (go_at_call 14; refine (HT1.out _ ?_).mono ?_; (first | exact (Below.refl _ _).drew | exact ((Below.refl _ _).alloc (Nat.le_refl _) _).drew | exact ((Below.refl _ _).drew).alloc (Nat.le_refl _) _); rintro e w7 ⟨rfl, hb7, hbb, r5, r6⟩; have r0 := (hbb.out.cell (p := ⟨b5, 0, none⟩) x4).trans x0; have r1 := (hbb.out.cell (p := ⟨b5, 1, none⟩) x4).trans x1; have r2 := (hbb.out.cell (p := ⟨g0, off, none⟩) hg0).trans hc0; have r3 : b5 < w7.heap.size := Nat.lt_of_lt_of_le x4 hbb.out.size; have r4 : g0 < w7.heap.size := Nat.lt_of_lt_of_le hg0 hbb.out.size))
      all_goals (try go_wp2_with fail)
      all_goals go_meet
      all_goals exact ⟨_, rfl, rfl, Lib.hid (by first | exact fm_ordA hbb.out | exact fm_ordB ((C2.new wB _ _ _).all (Below.refl _ _).drew) (Nat.le_refl _) (((Below.refl _ _).alloc (Nat.le_refl _) _).drew) hb7.out | exact fm_ordB (C2.new wB.drew _ _ _) (Nat.le_refl _) ((Below.refl _ _).drew.alloc (Nat.le_refl _) _) hb7.out)⟩
    case rest =>
      obtain ⟨b8, rfl, rfl, H8⟩ := hcut
      have H3 := Lib.hid (And.intro (H2.out.1.all H8.out.2) (And.intro (H2.out.2.1.all H8.out.2) (And.intro (H2.out.2.2.below H8.out.2) H8.out.1)))
      clear H8 H2 HT1 x0 x1 x2 x3 x4 hc0 hg0 hv0 v0
      obtain ⟨wu, hwu⟩ : ∃ wu : World, wu = wc := ⟨_, rfl⟩
      subst hwu
      have HT1 := Lib.hid (fun (wx : World) (hb : Below wu.heap.size wu wx) => by have := HT.out wx (vs.getD (N - 1) 0 + 1) (H3.out.1.val.below hb) (H3.out.1.cha.below hb); rw [tl_last HS1.out.2 HS1.out.1.q] at this; exact fm_both hb this)
      have hrg := HS1.out.1.sm (N - 1) (by omega)
      obtain ⟨g1, of1, e1, hc0⟩ := H3.out.1.val.at (show N - 1 < N by omega)
      simp only [Option.some.injEq, Addr.mk.injEq] at e1
      obtain ⟨rfl, rfl, _⟩ := e1
      obtain ⟨v0, hv0⟩ : ∃ v, vs.getD (N - 1) 0 = v := ⟨_, rfl⟩
      rw [hv0] at HT1 hc0 hrg
      obtain ⟨N', hN'⟩ : ∃ n, N - 1 = n := ⟨_, rfl⟩
      rw [hN'] at hc0
      have hNw : IntKind.i64.wrap ((N : Int) - 1) = (N' : Int) := by rw [show (N : Int) - 1 = (N' : Int) by omega]; exact IntWalk.i64_in _ (by have := HS1.out.1.q.n64; omega)
      have hN'0 : (0 : Int) ≤ (N' : Int) := by omega
      have hN'1 : (N' : Int) < (N : Int) := by omega
      have hvw : IntKind.i64.wrap (v0 + 1) = v0 + 1 := IntWalk.i64_in _ (by omega)
      have hg0 := World.block_lt_of_cell? wu _ hc0
      simp only at hg0
      obtain ⟨x0, x1, x2, x3, x4⟩ := H3.out.1.bx
      go_upto_region 7 with fail
      go_cut [10, 11] (fun v10 v11 wc => ∃ b10 : Nat, v10 = .pointer (some ⟨b10, 0, none⟩) ∧ v11 = .bool true ∧ Hid (C2 wc b10 (.int .i64 0) (.int .i64 1) ∧ Below wu.heap.size wu wc))
      case first =>
        have hda : ∀ o, (wu.alloc o).drew.heap.size = wu.heap.size + 1 := fun o => alloc_size wu o
        have hds : ∀ o, (wu.drew.alloc o).heap.size = wu.heap.size + 1 := fun o => alloc_size wu.drew o
        have hn0 := World.new_ne wu _ x0
        have hn1 := World.new_ne wu _ hc0
        simp at hn0 hn1
        go_region_held3 (fun w' => w'.cell? ⟨b5, 0, none⟩ = some (.slice (some ⟨g0, off, none⟩) N c1) ∧ w'.cell? ⟨b5, 1, none⟩ = some (.slice a2 N c2) ∧ w'.cell? ⟨g0, off + N', none⟩ = some (.int .i64 v0) ∧ b5 < w'.heap.size ∧ g0 < w'.heap.size)
          ((repeat' refine And.intro ?_ ?_) <;> first | assumption | (go_keep; done) | (go_keep; omega))
          (first | (go_at_call 14; refine (HT1.out _ ?_).mono ?_; (first | exact (Below.refl _ _).drew | exact ((Below.refl _ _).alloc (Nat.le_refl _) _).drew | exact ((Below.refl _ _).drew).alloc (Nat.le_refl _) _); rintro e w7 ⟨rfl, hb7, hbb, r5, r6⟩; have r0 := (hbb.out.cell (p := ⟨b5, 0, none⟩) x4).trans x0; have r1 := (hbb.out.cell (p := ⟨b5, 1, none⟩) x4).trans x1; have r2 := (hbb.out.cell (p := ⟨g0, off + N', none⟩) hg0).trans hc0; have r3 : b5 < w7.heap.size := Nat.lt_of_lt_of_le x4 hbb.out.size; have r4 : g0 < w7.heap.size := Nat.lt_of_lt_of_le hg0 hbb.out.size))
        all_goals (try go_wp2_with fail)
        all_goals go_meet
        all_goals exact ⟨_, rfl, rfl, Lib.hid (by first | exact fm_ordA hbb.out | exact fm_ordB ((C2.new wu _ _ _).all (Below.refl _ _).drew) (Nat.le_refl _) (((Below.refl _ _).alloc (Nat.le_refl _) _).drew) hb7.out | exact fm_ordB (C2.new wu.drew _ _ _) (Nat.le_refl _) ((Below.refl _ _).drew.alloc (Nat.le_refl _) _) hb7.out)⟩
      case rest =>
        obtain ⟨b10, rfl, rfl, H8⟩ := hcut
        have H4 := Lib.hid (And.intro (H3.out.1.all H8.out.2) (And.intro (H3.out.2.1.all H8.out.2) (And.intro (H3.out.2.2.1.below H8.out.2) (And.intro (H3.out.2.2.2.all H8.out.2) H8.out.1))))
        clear H8 H3 HT1 HT x0 x1 x2 x3 x4 hc0 hg0 hv0 v0 hNw hvw hN'0 hN'1 hN' N' hrg
        obtain ⟨wv, hwv⟩ : ∃ wv : World, wv = wc := ⟨_, rfl⟩
        subst hwv
        have HB := Lib.hid (fun (wx : World) (hb : Below wv.heap.size wv wx) => b10At_val a' len' cap' bs' 0 (N : Int) wx (H4.out.2.2.1.below hb) (by omega))
        obtain ⟨i, hi, hbt⟩ := bAt_in bs' 0 len' N hN1
        rw [hbt] at HB
        have hci := fm_cell H4.out.1.val hi
        obtain ⟨pn, pd, ln, ld, hlv⟩ := lvN_of HS1.out.1 hi
        have HC := Lib.hid (fm_chance HS1.out.2 HS1.out.1.q hi hlv)
        have HV := Lib.hid (fm_level HS1.out.2 HS1.out.1.q hi hlv)
        have HL1 := Lib.hid (fun w => b10Less_no ln ld pn pd w hlv.okl hlv.ok hlv.le)
        have HL2 := Lib.hid (fun w => b10Less_no 1 1 ln ld w (by decide) hlv.okl hlv.one)
        have hpos := hlv.pos
        obtain ⟨v0, hv0⟩ : ∃ v, vs.getD i 0 = v := ⟨_, rfl⟩
        rw [hv0] at hci HC HV
        have hi0 : (0:Int) ≤ (i:Int) := by omega
        have hi1 : (i:Int) < (N:Int) := by omega
        clear hbt hlv hv0 hi
        obtain ⟨x0, x1, x2, x3, x4⟩ := H4.out.1.bx
        go_upto_region 8 with fail
        go_quiet ((go_at_call 15; exact Calls.quiet_of_same (HB.out _ (drewN_below _ _))))
        go_upto_region 9 with fail
        obtain ⟨ws, hws⟩ : ∃ ws, wv.drewN nq = ws := ⟨_, rfl⟩
        rw [hws]
        have hbs : Below wv.heap.size wv ws := hws ▸ drewN_below wv nq
        have H5 := Lib.hid (And.intro (H4.out.1.all hbs) (And.intro (H4.out.2.1.all hbs) (((Bx.nil _).push (H4.out.2.2.2.1.all hbs)).push (H4.out.2.2.2.2.all hbs))))
        clear hws hbs hci hi0 hi1 HB H4 x0 x1 x2 x3 x4
        obtain ⟨x0, x1, x2, x3, x4⟩ := H5.out.1.bx
        go_wp2_with fail
        refine (HC.out _ _ _ _ _ H5.out.1.val H5.out.1.cha).mono ?_
        rintro e w3 ⟨rfl, hb3⟩
        clear x0 x1 x2 x3 x4
        obtain ⟨x0, x1, x2, x3, x4⟩ := (H5.out.1.all hb3).bx
        go_wp2_with fail
        obtain ⟨b13, wA, e1, e2, hc13, hbA⟩ := fm_box hb3 (.int .i64 (pn : Nat)) (.int .i64 (pd : Nat)) 40
        rw [e2, e1]
        have H6 := Lib.hid (And.intro (H5.out.1.all hbA) (And.intro (H5.out.2.1.all hbA) ((H5.out.2.2.all hbA).push hc13)))
        clear x0 x1 x2 x3 x4 e1 e2 hc13 hbA hb3 H5
        refine (HV.out _ _ _ _ _ H6.out.1.val H6.out.1.cha).mono ?_
        rintro e w4 ⟨rfl, hb4⟩
        go_upto_region 11 with fail
        obtain ⟨b15, wB, e1, e2, hc15, hbB⟩ := fm_box hb4 (.int .i64 (ln : Nat)) (.int .i64 (ld : Nat)) 40
        rw [e2, e1]
        have H7 := Lib.hid (And.intro (H6.out.1.all hbB) (And.intro (H6.out.2.1.all hbB) ((H6.out.2.2.all hbB).push hc15)))
        clear e1 e2 hc15 hbB hb4 H6 w3 w4
        obtain ⟨x0, x1, x2, x3, x4⟩ := H7.out.2.2.at 0 rfl
        obtain ⟨y0, y1, y2, y3, y4⟩ := H7.out.2.2.at 1 rfl
        obtain ⟨z0, z1, z2, z3, z4⟩ := H7.out.2.2.at 2 rfl
        obtain ⟨u0, u1, u2, u3, u4⟩ := H7.out.2.2.at 3 rfl
        go_wp2_with fail
        refine (HL1.out _).mono ?_
        rintro e w5 ⟨rfl, hb5⟩
        clear x0 x1 x2 x3 x4 y0 y1 y2 y3 y4 z0 z1 z2 z3 z4 u0 u1 u2 u3 u4
        have H8 := Lib.hid (And.intro (H7.out.1.all hb5) (And.intro (H7.out.2.1.all hb5) ((H7.out.2.2.all hb5).at 3 rfl)))
        clear hb5 H7
        obtain ⟨u0, u1, u2, u3, u4⟩ := H8.out.2.2
        go_wp2_with fail
        refine (HL2.out _).mono ?_
        rintro e w6 ⟨rfl, hb6⟩
        have H9 := Lib.hid (And.intro (H8.out.1.all hb6) (H8.out.2.1.all hb6))
        clear u0 u1 u2 u3 u4 hb6 H8 HL1 HL2 HC HV hpos
        go_upto_region 13 with fail
        obtain ⟨x0, x1, x2, x3, x4⟩ := H9.out.1.bx
        obtain ⟨y0, y1, y2, y3, y4⟩ := H9.out.2.bx
        rcases fm_join HS1.out.1.q HS2.out.1.q with ⟨L, V, F, hj, hI, hS⟩ | ⟨hI, hS⟩
        · have HJ := Lib.hid hj
          have HI := Lib.hid hI
          have HS := Lib.hid hS
          clear hj hI hS
          go_wp2_with fail
          refine (HI.out.at H9.out.1 H9.out.2).mono ?_
          rintro e w7 ⟨k1, m1, k2, m2, rfl, hV, hF, hb7⟩
          have H10 := Lib.hid (And.intro (H9.out.1.all (bthen hb7 (al_belM w7 (.cells #[.slice k1 L m1, .slice k2 L m2] 29)))) (And.intro (H9.out.2.all (bthen hb7 (al_belM w7 (.cells #[.slice k1 L m1, .slice k2 L m2] 29)))) (LbM.new (c1 := m1) (c2 := m2) hV hF (bthen H9.out.1.bel hb7) 29)))
          clear x0 x1 x2 x3 x4 y0 y1 y2 y3 y4
          obtain ⟨x0, x1, x2, x3, x4⟩ := (H9.out.1.all hb7).bx
          obtain ⟨y0, y1, y2, y3, y4⟩ := (H9.out.2.all hb7).bx
          go_wp2_with fail
          obtain ⟨b17, hb17⟩ : ∃ b, w7.heap.size = b := ⟨_, rfl⟩
          obtain ⟨wC, hwC⟩ : ∃ w', w7.alloc (.cells #[.slice k1 L m1, .slice k2 L m2] 29) = w' := ⟨_, rfl⟩
          rw [hwC, hb17] at H10
          rw [hwC, hb17]
          clear x0 x1 x2 x3 x4 y0 y1 y2 y3 y4 hwC hb17 hb7 hV hF H9 HI w7
          refine (HS.out.at H10.out.1 H10.out.2.1).mono ?_
          rintro e w8 ⟨k3, m3, k4, m4, rfl, -, -, hb8⟩
          go_upto_region 19 with fail
          obtain ⟨wD0, hwD⟩ : ∃ w', w8.alloc (.cells #[.slice k3 L m3, .slice k4 L m4] 29) = w' := ⟨_, rfl⟩
          have hbD : Below wC.heap.size wC wD0 := hwD ▸ bthen hb8 (al_belM w8 _)
          rw [hwD]
          have H11 := Lib.hid (And.intro (H10.out.1.all hbD) (And.intro (H10.out.2.1.all hbD) (And.intro (H10.out.2.2.all hbD) (Bx.nil wD0))))
          obtain ⟨p1, q1, p2, q2, p3, q3, M1, M2, M3, M4⟩ := fm_means HS1.out.2 HS2.out.2 HS1.out.1 HS2.out.1 HJ.out
          obtain ⟨s1, t1, s2, t2, s3, t3, V1, V2, V3, V4⟩ := fm_vars HS1.out.2 HS2.out.2 HS1.out.1 HS2.out.1 HJ.out
          have HM1 := Lib.hid M1
          have HM2 := Lib.hid M2
          have HM3 := Lib.hid M3
          have HM4 := Lib.hid M4
          have HV1 := Lib.hid V1
          have HV2 := Lib.hid V2
          have HV3 := Lib.hid V3
          have HV4 := Lib.hid V4
          clear M1 M2 M3 M4 V1 V2 V3 V4 hwD hbD hb8 H10 HS
          obtain ⟨x0, x1, x2, x3, x4⟩ := H11.out.1.bx
          go_wp2_with fail
          refine (HM1.out.at H11.out.1).mono ?_
          rintro e w1 ⟨rfl, hb1⟩
          clear x0 x1 x2 x3 x4
          go_upto_region 20 with fail
          obtain ⟨b21, wD1, e1, e2, hc, hbE⟩ := fm_box hb1 (.int .i64 p1) (.int .i64 q1) 40
          rw [e2, e1]
          have H12 := Lib.hid (And.intro (H11.out.1.all hbE) (And.intro (H11.out.2.1.all hbE) (And.intro (H11.out.2.2.1.all hbE) ((H11.out.2.2.2.all hbE).push hc))))
          clear e1 e2 hc hbE hb1 H11 w1 HM1
          obtain ⟨x0, x1, x2, x3, x4⟩ := H12.out.2.1.bx
          go_wp2_with fail
          refine (HM2.out.at H12.out.2.1).mono ?_
          rintro e w1 ⟨rfl, hb1⟩
          clear x0 x1 x2 x3 x4
          go_upto_region 21 with fail
          obtain ⟨b23, wD2, e1, e2, hc, hbE⟩ := fm_box hb1 (.int .i64 p2) (.int .i64 q2) 40
          rw [e2, e1]
          have H13 := Lib.hid (And.intro (H12.out.1.all hbE) (And.intro (H12.out.2.1.all hbE) (And.intro (H12.out.2.2.1.all hbE) ((H12.out.2.2.2.all hbE).push hc))))
          clear e1 e2 hc hbE hb1 H12 w1 HM2
          obtain ⟨x0, x1, x2, x3, x4⟩ := H13.out.2.2.1.bx
          go_wp2_with fail
          refine (HM3.out.at H13.out.2.2.1).mono ?_
          rintro e w1 ⟨rfl, hb1⟩
          clear x0 x1 x2 x3 x4
          go_upto_region 22 with fail
          obtain ⟨b25, wD3, e1, e2, hc, hbE⟩ := fm_box hb1 (.int .i64 p3) (.int .i64 q3) 40
          rw [e2, e1]
          have H14 := Lib.hid (And.intro (H13.out.1.all hbE) (And.intro (H13.out.2.1.all hbE) (And.intro (H13.out.2.2.1.all hbE) ((H13.out.2.2.2.all hbE).push hc))))
          clear e1 e2 hc hbE hb1 H13 w1 HM3
          obtain ⟨x0, x1, x2, x3, x4⟩ := H14.out.1.bx
          go_wp2_with fail
          refine (HV1.out.at H14.out.1).mono ?_
          rintro e w1 ⟨rfl, hb1⟩
          clear x0 x1 x2 x3 x4
          go_upto_region 23 with fail
          obtain ⟨b27, wD4, e1, e2, hc, hbE⟩ := fm_box hb1 (.int .i64 s1) (.int .i64 t1) 40
          rw [e2, e1]
          have H15 := Lib.hid (And.intro (H14.out.1.all hbE) (And.intro (H14.out.2.1.all hbE) (And.intro (H14.out.2.2.1.all hbE) ((H14.out.2.2.2.all hbE).push hc))))
          clear e1 e2 hc hbE hb1 H14 w1 HV1
          obtain ⟨x0, x1, x2, x3, x4⟩ := H15.out.2.1.bx
          go_wp2_with fail
          refine (HV2.out.at H15.out.2.1).mono ?_
          rintro e w1 ⟨rfl, hb1⟩
          clear x0 x1 x2 x3 x4
          go_upto_region 24 with fail
          obtain ⟨b29, wD5, e1, e2, hc, hbE⟩ := fm_box hb1 (.int .i64 s2) (.int .i64 t2) 40
          rw [e2, e1]
          have H16 := Lib.hid (And.intro (H15.out.1.all hbE) (And.intro (H15.out.2.1.all hbE) (And.intro (H15.out.2.2.1.all hbE) ((H15.out.2.2.2.all hbE).push hc))))
          clear e1 e2 hc hbE hb1 H15 w1 HV2
          obtain ⟨x0, x1, x2, x3, x4⟩ := H16.out.2.2.1.bx
          go_wp2_with fail
          refine (HV3.out.at H16.out.2.2.1).mono ?_
          rintro e w1 ⟨rfl, hb1⟩
          clear x0 x1 x2 x3 x4
          go_upto_region 25 with fail
          obtain ⟨b31, wD6, e1, e2, hc, hbE⟩ := fm_box hb1 (.int .i64 s3) (.int .i64 t3) 40
          rw [e2, e1]
          have H17 := Lib.hid (And.intro (H16.out.1.all hbE) (And.intro (H16.out.2.1.all hbE) (And.intro (H16.out.2.2.1.all hbE) ((H16.out.2.2.2.all hbE).push hc))))
          clear e1 e2 hc hbE hb1 H16 w1 HV3
          have HVL := Lib.hid (fun wx hb => fm_valid (wx := wx) HJ.out.lo HJ.out.n64 H17.out.2.2.1 hb)
          have HA1 := Lib.hid (fun wx hb => HM4.out.both (w := wD6) (wx := wx) hb)
          have HA2 := Lib.hid (fun wx hb => HV4.out.both (w := wD6) (wx := wx) hb)
          obtain ⟨x0, x1, x2, x3, x4⟩ := H17.out.2.2.1.bx
          have K := Lib.hid H17.out.2.2.1.bx
          have K0 := Lib.hid (H17.out.2.2.2.at 0 rfl)
          have c0 := K0.out.c0
          have d0 := K0.out.c1
          have K1 := Lib.hid (H17.out.2.2.2.at 1 rfl)
          have c1 := K1.out.c0
          have d1 := K1.out.c1
          have K2 := Lib.hid (H17.out.2.2.2.at 2 rfl)
          have c2 := K2.out.c0
          have d2 := K2.out.c1
          have K3 := Lib.hid (H17.out.2.2.2.at 3 rfl)
          have c3 := K3.out.c0
          have d3 := K3.out.c1
          have K4 := Lib.hid (H17.out.2.2.2.at 4 rfl)
          have c4 := K4.out.c0
          have d4 := K4.out.c1
          have K5 := Lib.hid (H17.out.2.2.2.at 5 rfl)
          have c5 := K5.out.c0
          have d5 := K5.out.c1
          have HZ := Lib.hid H17.out.1.bel
          clear H17 HM4 HV4 HJ x2 x3 x4 HS1 HS2 HX HX' HL hN1

          go_region_held3 (fun w' => w'.cell? ⟨b17, 0, none⟩ = some (.slice k1 L m1) ∧ w'.cell? ⟨b17, 1, none⟩ = some (.slice k2 L m2) ∧ w'.cell? ⟨b21, 0, none⟩ = some (.int .i64 p1) ∧ w'.cell? ⟨b21, 1, none⟩ = some (.int .i64 q1) ∧ w'.cell? ⟨b23, 0, none⟩ = some (.int .i64 p2) ∧ w'.cell? ⟨b23, 1, none⟩ = some (.int .i64 q2) ∧ w'.cell? ⟨b25, 0, none⟩ = some (.int .i64 p3) ∧ w'.cell? ⟨b25, 1, none⟩ = some (.int .i64 q3) ∧ w'.cell? ⟨b27, 0, none⟩ = some (.int .i64 s1) ∧ w'.cell? ⟨b27, 1, none⟩ = some (.int .i64 t1) ∧ w'.cell? ⟨b29, 0, none⟩ = some (.int .i64 s2) ∧ w'.cell? ⟨b29, 1, none⟩ = some (.int .i64 t2) ∧ w'.cell? ⟨b31, 0, none⟩ = some (.int .i64 s3) ∧ w'.cell? ⟨b31, 1, none⟩ = some (.int .i64 t3))
            ((repeat' refine And.intro ?_ ?_) <;> first | assumption | (go_keep; done))
            (first | (go_at_call 21; refine (HVL.out _ ?_).mono ?_; (first | exact (Below.refl _ _).drew | exact Below.refl _ _ | exact drewN_below _ _); rintro e w7 ⟨rfl, hb7⟩; have r0 := K.out.k0 hb7; have r1 := K.out.k1 hb7; have g0 := K0.out.k0 hb7; have h0 := K0.out.k1 hb7; have g1 := K1.out.k0 hb7; have h1 := K1.out.k1 hb7; have g2 := K2.out.k0 hb7; have h2 := K2.out.k1 hb7; have g3 := K3.out.k0 hb7; have h3 := K3.out.k1 hb7; have g4 := K4.out.k0 hb7; have h4 := K4.out.k1 hb7; have g5 := K5.out.k0 hb7; have h5 := K5.out.k1 hb7) | (go_at_call_of 22 p1; with_reducible refine (HA1.out _ ?_).mono ?_; (first | exact hb7.out | exact hb7.out.drew); rintro e w7 ⟨rfl, hb7⟩; have r0 := K.out.k0 hb7; have r1 := K.out.k1 hb7; have g0 := K0.out.k0 hb7; have h0 := K0.out.k1 hb7; have g1 := K1.out.k0 hb7; have h1 := K1.out.k1 hb7; have g2 := K2.out.k0 hb7; have h2 := K2.out.k1 hb7; have g3 := K3.out.k0 hb7; have h3 := K3.out.k1 hb7; have g4 := K4.out.k0 hb7; have h4 := K4.out.k1 hb7; have g5 := K5.out.k0 hb7; have h5 := K5.out.k1 hb7) | (go_at_call_of 22 s1; with_reducible refine (HA2.out _ ?_).mono ?_; (first | exact hb7.out | exact hb7.out.drew); rintro e w7 ⟨rfl, hb7⟩; have r0 := K.out.k0 hb7; have r1 := K.out.k1 hb7; have g0 := K0.out.k0 hb7; have h0 := K0.out.k1 hb7; have g1 := K1.out.k0 hb7; have h1 := K1.out.k1 hb7; have g2 := K2.out.k0 hb7; have h2 := K2.out.k1 hb7; have g3 := K3.out.k0 hb7; have h3 := K3.out.k1 hb7; have g4 := K4.out.k0 hb7; have h4 := K4.out.k1 hb7; have g5 := K5.out.k0 hb7; have h5 := K5.out.k1 hb7))
          all_goals go_wp2_with fail
          all_goals go_ret
          all_goals exact ⟨rfl, bthen HZ.out (by first | exact hb7.out | exact hb7.out.drew)⟩
        · have HI := Lib.hid hI
          have HS := Lib.hid hS
          clear hI hS
          go_wp2_with fail
          refine (HI.out.at H9.out.1 H9.out.2).mono ?_
          rintro e w7 ⟨k1, m1, k2, m2, rfl, hb7⟩
          have H10 := Lib.hid (And.intro (H9.out.1.all (bthen hb7 (al_belM w7 (.cells #[.slice k1 0 m1, .slice k2 0 m2] 29)))) (H9.out.2.all (bthen hb7 (al_belM w7 (.cells #[.slice k1 0 m1, .slice k2 0 m2] 29)))))
          clear x0 x1 x2 x3 x4 y0 y1 y2 y3 y4
          obtain ⟨x0, x1, x2, x3, x4⟩ := (H9.out.1.all hb7).bx
          obtain ⟨y0, y1, y2, y3, y4⟩ := (H9.out.2.all hb7).bx
          go_wp2_with fail
          obtain ⟨wC, hwC⟩ : ∃ w', w7.alloc (.cells #[.slice k1 0 m1, .slice k2 0 m2] 29) = w' := ⟨_, rfl⟩
          rw [hwC] at H10 ⊢
          clear x0 x1 x2 x3 x4 y0 y1 y2 y3 y4 hwC hb7 H9 HI
          refine (HS.out.at H10.out.1 H10.out.2).mono ?_
          rintro e w8 ⟨k3, m3, k4, m4, rfl, hb8⟩
          go_wp2_with fail
          go_ret
          exact ⟨rfl, bthen (H10.out.1.all hb8).bel (al_belM w8 _)⟩
end Go.Proofs.YtaneocedklnajaaGreat

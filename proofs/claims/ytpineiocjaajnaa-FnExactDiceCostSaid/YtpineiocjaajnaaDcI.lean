import Derived.Test.YtpineiocjaajnaaDcV
import Derived.Deep.CutBlock
/- The cost of a die: the program's walk. Condition: none (other numbers than 1 to 32 are told apart). -/
namespace Go.Proofs.Ytpineiocjaajnaa
open Go.RowKit
set_option linter.unusedVariables false
set_option maxRecDepth 100000 in
set_option maxHeartbeats 6400000 in
theorem diceCost_any (n0 : Int) (w : World) : Calls Try.prog 16 #[.int .i64 n0] w fun e w' => e = .returned (dcV n0) ∧ Below w.heap.size w w' := by
  have hA : Below w.heap.size w ((w.alloc (.cells #[.int .i64 n0] 2)).alloc (.cells #[.int .i64 0, .int .i64 0] 33)) := ((Below.refl _ w).alloc (Nat.le_refl _) _).alloc (by simp) _
  have hc0 : ((w.alloc (.cells #[.int .i64 n0] 2)).alloc (.cells #[.int .i64 0, .int .i64 0] 33)).cell? ⟨w.heap.size, 0, none⟩ = some (.int .i64 n0) := by
    have := ((Below.refl _ (w.alloc (.cells #[.int .i64 n0] 2))).alloc (Nat.le_refl _) (.cells #[.int .i64 0, .int .i64 0] 33)).cell (p := ⟨w.heap.size, 0, none⟩) (by simp)
    rw [this]
    have hh := heap_at_new w (.cells #[.int .i64 n0] 2)
    simp only [World.cell?, hh]
    rfl
  have hc1 : C2 ((w.alloc (.cells #[.int .i64 n0] 2)).alloc (.cells #[.int .i64 0, .int .i64 0] 33)) (w.heap.size + 1) (.int .i64 0) (.int .i64 0) := by
    have := C2.new (w.alloc (.cells #[.int .i64 n0] 2)) 33 (.int .i64 0) (.int .i64 0)
    rw [alloc_size] at this; exact this
  have H0 := Lib.hid (And.intro hc0 (And.intro hc1 hA))
  clear hA hc0 hc1
  cases hr : inR n0 1 32 with
  | false =>
    have HR := Lib.hid (And.intro hr (show dcV n0 = .tuple #[.agg #[.int .i64 0, .int .i64 0], .bool false] by unfold dcV; rw [hr]; rfl))
    clear hr
    go_enter Try.func16, Try.ntmps16
    go_wp2_with fail
    refine (inRangeQ _ _ _ _).mono ?_
    rintro e w' ⟨rfl, rfl⟩
    rw [HR.out.1]
    obtain ⟨wA, hwA⟩ : ∃ w', ((w.alloc (.cells #[.int .i64 n0] 2)).alloc (.cells #[.int .i64 0, .int .i64 0] 33)) = w' := ⟨_, rfl⟩
    rw [hwA] at H0 ⊢
    clear hwA
    obtain ⟨y0, y1, y2, y3, y4⟩ := H0.out.2.1
    go_wp2_with fail
    refine bodyPost_ret (v := .tuple #[.agg #[.int .i64 0, .int .i64 0], .bool false]) (by simp [results, Try.results16, go_sem, *]) rfl ⟨by rw [HR.out.2], ?_⟩
    exact below_2c H0.out.2.2 (by omega) _ _
  | true =>
    have HR := Lib.hid hr
    simp only [inR, Bool.and_eq_true, decide_eq_true_eq] at hr
    obtain ⟨n, rfl⟩ := Int.eq_ofNat_of_zero_le (show 0 ≤ n0 by omega)
    have h0 : 0 < n := by omega
    have hn : n ≤ 32 := by omega
    have hN := dcN h0 hn
    have hG := dcG h0 hn
    have hV : dcV (n : Int) = fracV (dcS n (dcB n) (dcK n) + dcA n (dcB n) (dcK n) * mkRat ((2 ^ (dcK n - dcB n) : Nat) : Int) (2 ^ (dcK n - dcB n) - 1)) := by unfold dcV; rw [HR.out]; rfl
    obtain ⟨B, hB⟩ : ∃ B, dcB n = B := ⟨_, rfl⟩
    obtain ⟨K, hK⟩ : ∃ K, dcK n = K := ⟨_, rfl⟩
    rw [hB, hK] at hN hG hV
    obtain ⟨L, hL⟩ : ∃ L, K - B = L := ⟨_, rfl⟩
    have hBK := hN.bk
    have hK32 := hN.k32
    have hHC := fun w b1 hc hb => dcCycle_any n B K b1 w h0 hn hN hc hb
    have hGL := hG
    rw [hL] at hV hHC
    obtain ⟨p, q, b', hform⟩ := fracV_dc (dcS n B K + dcA n B K * mkRat ((2 ^ L : Nat) : Int) (2 ^ L - 1))
    rw [hform] at hV
    have HV := Lib.hid hV
    have HFO := Lib.hid hform
    have HGG := Lib.hid hG
    have HNN := Lib.hid hN
    have HHC := Lib.hid hHC
    have HLL := Lib.hid hL
    clear hr hN hG hV hform hHC hB hK hGL hL
    go_enter Try.func16, Try.ntmps16
    go_wp2_with fail
    refine (inRangeQ _ _ _ _).mono ?_
    rintro e w' ⟨rfl, rfl⟩
    rw [HR.out]
    obtain ⟨wA, hwA⟩ : ∃ w', ((w.alloc (.cells #[.int .i64 (n : Nat)] 2)).alloc (.cells #[.int .i64 0, .int .i64 0] 33)) = w' := ⟨_, rfl⟩
    rw [hwA] at H0 ⊢
    clear hwA
    obtain ⟨b1, hb1⟩ : ∃ b, w.heap.size = b := ⟨_, rfl⟩
    have HC1 : Hid (wA.cell? ⟨b1, 0, none⟩ = some (.int .i64 (n : Nat))) := Lib.hid (by rw [← hb1]; exact H0.out.1)
    have hlt1 : b1 < wA.heap.size := World.block_lt_of_cell? wA _ HC1.out
    have HCY := Lib.hid (fun w hc hb => HHC.out w b1 hc hb)
    rw [hb1]
    have HB1 := Lib.hid hb1
    have n0' : ¬ (n : Int) = 0 := by omega
    have n00 : ¬ n = 0 := by omega
    have n1' : ¬ (n : Int) = -1 := by omega
    obtain ⟨z0, hz0⟩ : ∃ z, 1 % n = z := ⟨_, rfl⟩
    have hm1 : (1 : Int) % (n : Int) = (z0 : Int) := by rw [← hz0, Int.natCast_emod]; rfl
    have hm2 : (1 : Int).tmod (n : Int) = (z0 : Int) := by rw [Int.tmod_eq_emod_of_nonneg (by omega)]; exact hm1
    rw [hz0] at HCY
    have HZ0 := Lib.hid hz0
    clear hz0
    clear hb1 HHC
    go_upto_region 3 with fail
    go_cut [4, 5] (fun v4 v5 wc => v4 = .int .i64 (B : Nat) ∧ v5 = .int .i64 (L : Nat) ∧ Hid (Below wA.heap.size wA wc))
    case first =>
      have HSA : Hid (∀ w', Below wA.heap.size wA w' → w'.cell? ⟨b1, 0, none⟩ = some (.int .i64 (n : Nat))) := Lib.hid (fun w' hb => (hb.cell (p := ⟨b1, 0, none⟩) (World.block_lt_of_cell? wA _ HC1.out)).trans HC1.out)
      have HB := Lib.hid ((Below.refl wA.heap.size wA).drew)
      have hT := HSA.out _ HB.out
      refine wp_region_any (by kernel_rfl) (any_of_K (k := 9) (S := fun _ => True) (T := fun w' => w'.cell? ⟨b1, 0, none⟩ = some (.int .i64 (n : Nat))) _ _ _ _ ?_)
      change anyK _ _ _ _ _ _ _ _ _ _ (World.drew wA)
      obtain ⟨v, hv⟩ : ∃ w', wA.drew = w' := ⟨_, rfl⟩
      rw [hv] at HB hT ⊢
      clear hv
      refine anyT_take (i := 0) (n := 9) (v := .int .i64 (n : Nat)) rfl (by decide) (by kernel_rfl) (by kernel_rfl) (by kernel_rfl) (fun _ _ _ h => h) (Or.inl ⟨by kernel_rfl, fun w' hw => by go_simp⟩) trivial hT ?_
      refine anyT_take (i := 1) (n := 8) (v := .int .i64 (n : Nat)) rfl (by decide) (by kernel_rfl) (by kernel_rfl) (by kernel_rfl) (fun _ _ _ h => h) (Or.inl ⟨by kernel_rfl, fun w' hw => by go_simp⟩) trivial hT ?_
      refine anyT_take (i := 2) (n := 7) (v := .int .i64 (z0 : Int)) rfl (by decide) (by kernel_rfl) (by kernel_rfl) (by kernel_rfl) (fun _ _ _ h => h) (Or.inl ⟨by kernel_rfl, fun w' hw => by go_simp⟩) trivial hT ?_
      refine anyT_take (i := 3) (n := 6) (v := .func (.func 38) #[] #[.pointer (some ⟨b1, 0, none⟩)]) rfl (by decide) (by kernel_rfl) (by kernel_rfl) (by kernel_rfl) (fun _ _ _ h => h) (Or.inl ⟨by kernel_rfl, fun w' hw => by go_simp⟩) trivial hT ?_
      refine anyK_all (n := 5) (rs := [4]) (by kernel_rfl) (by simp) (fun i hi => ?_)
      simp only [List.mem_cons, List.not_mem_nil, or_false] at hi
      obtain rfl := hi
      refine wpOp_step rfl (fun K' hK => ?_)
      go_simp
      refine (HCY.out _ hT (by have := HB.out.size; omega)).mono ?_
      rintro e v2 ⟨rfl, hb⟩
      have HB2 := Lib.hid (bthen HB.out hb)
      replace hT := HSA.out _ HB2.out
      refine hK _ _ ⟨fun _ _ => trivial, hT, ?_⟩
      clear hK hb HB
      refine anyT_take (i := 5) (n := 4) (v := .tuple #[.int .i64 (B : Nat), .int .i64 (L : Nat)]) rfl (by decide) (by kernel_rfl) (by kernel_rfl) (by kernel_rfl) (fun _ _ _ h => h) (Or.inl ⟨by kernel_rfl, fun w' hw => by go_simp⟩) trivial hT ?_
      refine anyT_take (i := 6) (n := 3) (v := .int .i64 (B : Nat)) rfl (by decide) (by kernel_rfl) (by kernel_rfl) (by kernel_rfl) (fun _ _ _ h => h) (Or.inl ⟨by kernel_rfl, fun w' hw => by go_simp⟩) trivial hT ?_
      refine anyT_take (i := 7) (n := 2) (v := .int .i64 (L : Nat)) rfl (by decide) (by kernel_rfl) (by kernel_rfl) (by kernel_rfl) (fun _ _ _ h => h) (Or.inl ⟨by kernel_rfl, fun w' hw => by go_simp⟩) trivial hT ?_
      refine anyT_take (i := 8) (n := 1) (v := .int .i64 (B : Nat)) rfl (by decide) (by kernel_rfl) (by kernel_rfl) (by kernel_rfl) (fun _ _ _ h => h) (Or.inl ⟨by kernel_rfl, fun w' hw => by go_simp⟩) trivial hT ?_
      refine anyK_all (n := 0) (rs := [9]) (by kernel_rfl) (by simp) (fun i hi => ?_)
      simp only [List.mem_cons, List.not_mem_nil, or_false] at hi
      obtain rfl := hi
      refine wpOp_step rfl (fun K' hK => ?_)
      go_simp
      refine hK _ _ ⟨fun h => absurd rfl h, hT, ?_⟩
      clear hK
      refine ⟨by kernel_rfl, ?_⟩
      go_wp2_with fail
      go_meet
      exact ⟨rfl, rfl, Lib.hid HB2.out⟩
    case rest =>
    obtain ⟨rfl, rfl, HB3⟩ := hcut
    obtain ⟨wq, hwq⟩ : ∃ x : World, x = wc := ⟨_, rfl⟩
    subst hwq
    have HC2 : Hid (wq.cell? ⟨b1, 0, none⟩ = some (.int .i64 (n : Nat))) := Lib.hid ((HB3.out.cell (p := ⟨b1, 0, none⟩) hlt1).trans HC1.out)
    have HW : Hid (∀ w, Calls Try.prog 39 #[.int .i64 0] w (RetR w 0)) := Lib.hid (fun w => whole_rr 0 w (by omega) (by omega))
    have H3 := Lib.hid (And.intro (H0.out.2.1.all HB3.out) (bthen H0.out.2.2 HB3.out))
    clear HB3 HC1 HCY H0
    go_upto_region 4 with fail
    go_cut [6, 7, 8] (fun v6 v7 v8 wd => ∃ b6 b7 : Nat, v6 = .pointer (some ⟨b6, 0, none⟩) ∧ v7 = .pointer (some ⟨b7, 0, none⟩) ∧ v8 = .int .i64 (z0 : Int) ∧ Hid (RBox wd b6 0 ∧ RBox wd b7 0 ∧ b6 ≠ b7 ∧ wq.heap.size ≤ b6 ∧ wq.heap.size ≤ b7 ∧ Below wq.heap.size wq wd))
    case first =>
      have HSA : Hid (∀ w', Below wq.heap.size wq w' → w'.cell? ⟨b1, 0, none⟩ = some (.int .i64 (n : Nat))) := Lib.hid (fun w' hb => (hb.cell (p := ⟨b1, 0, none⟩) (World.block_lt_of_cell? wq _ HC2.out)).trans HC2.out)
      have HB := Lib.hid ((Below.refl wq.heap.size wq).drew)
      have hT := HSA.out _ HB.out
      refine wp_region_any (by kernel_rfl) (any_of_K (k := 7) (S := fun _ => True) (T := fun w' => w'.cell? ⟨b1, 0, none⟩ = some (.int .i64 (n : Nat))) _ _ _ _ ?_)
      change anyK _ _ _ _ _ _ _ _ _ _ (World.drew wq)
      obtain ⟨v, hv⟩ : ∃ w', wq.drew = w' := ⟨_, rfl⟩
      rw [hv] at HB hT ⊢
      clear hv
      refine anyT_take (i := 2) (n := 8) (v := .int .i64 (n : Nat)) rfl (by decide) (by kernel_rfl) (by kernel_rfl) (by kernel_rfl) (fun _ _ _ h => h) (Or.inl ⟨by kernel_rfl, fun w' hw => by go_simp⟩) trivial hT ?_
      refine anyT_take (i := 3) (n := 7) (v := .int .i64 (z0 : Int)) rfl (by decide) (by kernel_rfl) (by kernel_rfl) (by kernel_rfl) (fun _ _ _ h => h) (Or.inl ⟨by kernel_rfl, fun w' hw => by go_simp⟩) trivial hT ?_
      have H := R4.start HB.out
      clear HB hT
      refine anyK_all (n := 6) (rs := [0, 4, 5]) (by kernel_rfl) (by simp) (fun i hi => ?_)
      simp only [List.mem_cons, List.not_mem_nil, or_false] at hi
      rcases hi with rfl | rfl | rfl
      · refine wpOp_step rfl (fun K' hK => ?_)
        go_simp
        refine (HW.out _).mono ?_
        rintro e v ⟨sg, x0, k0, l0, y0, m0, j0, rfl, hv, hb, hsg⟩
        obtain rfl : sg = false := by rw [hsg]; rfl
        replace H := (H.below hb).call0 (x0, k0, l0, y0, m0, j0) hv
        refine hK _ _ ⟨fun _ _ => trivial, HSA.out _ H.bel, ?_⟩
        clear hK hv hb hsg
        refine anyK_all (n := 5) (rs := [1, 4, 5]) (by kernel_rfl) (by simp) (fun i hi => ?_)
        simp only [List.mem_cons, List.not_mem_nil, or_false] at hi
        rcases hi with rfl | rfl | rfl
        · refine wpOp_step rfl (fun K' hK => ?_)
          go_simp
          refine (HW.out _).mono ?_
          rintro e v ⟨sg, x1, k1, l1, y1, m1, j1, rfl, hv, hb, hsg⟩
          obtain rfl : sg = false := by rw [hsg]; rfl
          replace H := (H.below hb).call1 (x1, k1, l1, y1, m1, j1) hv
          refine hK _ _ ⟨fun _ _ => trivial, HSA.out _ H.bel, ?_⟩
          clear hK hv hb hsg
          refine anyK_all (n := 4) (rs := [4, 5]) (by kernel_rfl) (by simp) (fun i hi => ?_)
          simp only [List.mem_cons, List.not_mem_nil, or_false] at hi
          rcases hi with rfl | rfl
          · refine wpOp_step rfl (fun K' hK => ?_)
            go_simp
            replace H := H.alloc4
            refine hK _ _ ⟨fun _ _ => trivial, HSA.out _ H.bel, ?_⟩
            clear hK
            obtain ⟨b4, hbb⟩ : ∃ b, v.heap.size = b := ⟨_, rfl⟩
            obtain ⟨v, hv⟩ : ∃ w', v.alloc (.cells #[.bool false, .slice none 0 0, .slice none 0 0] 71) = w' := ⟨_, rfl⟩
            rw [hbb, hv] at H
            rw [hv]
            try rw [hbb]
            clear hbb hv
            refine anyK_all (n := 3) (rs := [5]) (by kernel_rfl) (by simp) (fun i hi => ?_)
            simp only [List.mem_cons, List.not_mem_nil, or_false] at hi
            obtain rfl := hi
            refine wpOp_step rfl (fun K' hK => ?_)
            go_simp
            replace H := H.alloc5
            refine hK _ _ ⟨fun _ _ => trivial, HSA.out _ H.bel, ?_⟩
            clear hK
            obtain ⟨b5, hbb⟩ : ∃ b, v.heap.size = b := ⟨_, rfl⟩
            obtain ⟨v, hv⟩ : ∃ w', v.alloc (.cells #[.bool false, .slice none 0 0, .slice none 0 0] 71) = w' := ⟨_, rfl⟩
            rw [hbb, hv] at H
            rw [hv]
            try rw [hbb]
            clear hbb hv
            refine anyK_all (n := 2) (rs := [6]) (by kernel_rfl) (by simp) (fun i hi => ?_)
            simp only [List.mem_cons, List.not_mem_nil, or_false] at hi
            obtain rfl := hi
            refine wpOp_step rfl (fun K' hK => ?_)
            go_simp
            obtain ⟨z0, z1, z2, z3, z4, z5, z6⟩ := H.box4 rfl
            try go_simp
            replace H := H.store4
            refine hK _ _ ⟨fun _ _ => trivial, HSA.out _ H.bel, ?_⟩
            clear hK z0 z1 z2 z3 z4 z5 z6
            change anyK _ _ _ _ _ _ _ _ _ _ (put3 v b4 (.bool false) (.slice x0 l0 k0) (.slice y0 j0 m0))
            change R4 _ _ _ _ _ (put3 v b4 (.bool false) (.slice x0 l0 k0) (.slice y0 j0 m0)) at H
            obtain ⟨v, hv⟩ : ∃ w', put3 v b4 (.bool false) (.slice x0 l0 k0) (.slice y0 j0 m0) = w' := ⟨_, rfl⟩
            rw [hv] at H ⊢
            clear hv
            refine anyK_all (n := 1) (rs := [7]) (by kernel_rfl) (by simp) (fun i hi => ?_)
            simp only [List.mem_cons, List.not_mem_nil, or_false] at hi
            obtain rfl := hi
            refine wpOp_step rfl (fun K' hK => ?_)
            go_simp
            obtain ⟨z0, z1, z2, z3, z4, z5, z6⟩ := H.box5 rfl
            try go_simp
            replace H := H.store5
            refine hK _ _ ⟨fun _ _ => trivial, HSA.out _ H.bel, ?_⟩
            clear hK z0 z1 z2 z3 z4 z5 z6
            change anyK _ _ _ _ _ _ _ _ _ _ (put3 v b5 (.bool false) (.slice x1 l1 k1) (.slice y1 j1 m1))
            change R4 _ _ _ _ _ (put3 v b5 (.bool false) (.slice x1 l1 k1) (.slice y1 j1 m1)) at H
            obtain ⟨v, hv⟩ : ∃ w', put3 v b5 (.bool false) (.slice x1 l1 k1) (.slice y1 j1 m1) = w' := ⟨_, rfl⟩
            rw [hv] at H ⊢
            clear hv
            refine anyK_all (n := 0) (rs := [8]) (by kernel_rfl) (by simp) (fun i hi => ?_)
            simp only [List.mem_cons, List.not_mem_nil, or_false] at hi
            obtain rfl := hi
            refine wpOp_step rfl (fun K' hK => ?_)
            go_simp
            refine hK _ _ ⟨fun _ _ => trivial, HSA.out _ H.bel, ?_⟩
            clear hK
            refine ⟨by kernel_rfl, ?_⟩
            go_wp2_with fail
            go_meet
            exact ⟨b4, b5, rfl, rfl, rfl, Lib.hid H.done⟩
          · refine wpOp_step rfl (fun K' hK => ?_)
            go_simp
            replace H := H.alloc5
            refine hK _ _ ⟨fun _ _ => trivial, HSA.out _ H.bel, ?_⟩
            clear hK
            obtain ⟨b5, hbb⟩ : ∃ b, v.heap.size = b := ⟨_, rfl⟩
            obtain ⟨v, hv⟩ : ∃ w', v.alloc (.cells #[.bool false, .slice none 0 0, .slice none 0 0] 71) = w' := ⟨_, rfl⟩
            rw [hbb, hv] at H
            rw [hv]
            try rw [hbb]
            clear hbb hv
            refine anyK_all (n := 3) (rs := [4]) (by kernel_rfl) (by simp) (fun i hi => ?_)
            simp only [List.mem_cons, List.not_mem_nil, or_false] at hi
            obtain rfl := hi
            refine wpOp_step rfl (fun K' hK => ?_)
            go_simp
            replace H := H.alloc4
            refine hK _ _ ⟨fun _ _ => trivial, HSA.out _ H.bel, ?_⟩
            clear hK
            obtain ⟨b4, hbb⟩ : ∃ b, v.heap.size = b := ⟨_, rfl⟩
            obtain ⟨v, hv⟩ : ∃ w', v.alloc (.cells #[.bool false, .slice none 0 0, .slice none 0 0] 71) = w' := ⟨_, rfl⟩
            rw [hbb, hv] at H
            rw [hv]
            try rw [hbb]
            clear hbb hv
            refine anyK_all (n := 2) (rs := [6]) (by kernel_rfl) (by simp) (fun i hi => ?_)
            simp only [List.mem_cons, List.not_mem_nil, or_false] at hi
            obtain rfl := hi
            refine wpOp_step rfl (fun K' hK => ?_)
            go_simp
            obtain ⟨z0, z1, z2, z3, z4, z5, z6⟩ := H.box4 rfl
            try go_simp
            replace H := H.store4
            refine hK _ _ ⟨fun _ _ => trivial, HSA.out _ H.bel, ?_⟩
            clear hK z0 z1 z2 z3 z4 z5 z6
            change anyK _ _ _ _ _ _ _ _ _ _ (put3 v b4 (.bool false) (.slice x0 l0 k0) (.slice y0 j0 m0))
            change R4 _ _ _ _ _ (put3 v b4 (.bool false) (.slice x0 l0 k0) (.slice y0 j0 m0)) at H
            obtain ⟨v, hv⟩ : ∃ w', put3 v b4 (.bool false) (.slice x0 l0 k0) (.slice y0 j0 m0) = w' := ⟨_, rfl⟩
            rw [hv] at H ⊢
            clear hv
            refine anyK_all (n := 1) (rs := [7]) (by kernel_rfl) (by simp) (fun i hi => ?_)
            simp only [List.mem_cons, List.not_mem_nil, or_false] at hi
            obtain rfl := hi
            refine wpOp_step rfl (fun K' hK => ?_)
            go_simp
            obtain ⟨z0, z1, z2, z3, z4, z5, z6⟩ := H.box5 rfl
            try go_simp
            replace H := H.store5
            refine hK _ _ ⟨fun _ _ => trivial, HSA.out _ H.bel, ?_⟩
            clear hK z0 z1 z2 z3 z4 z5 z6
            change anyK _ _ _ _ _ _ _ _ _ _ (put3 v b5 (.bool false) (.slice x1 l1 k1) (.slice y1 j1 m1))
            change R4 _ _ _ _ _ (put3 v b5 (.bool false) (.slice x1 l1 k1) (.slice y1 j1 m1)) at H
            obtain ⟨v, hv⟩ : ∃ w', put3 v b5 (.bool false) (.slice x1 l1 k1) (.slice y1 j1 m1) = w' := ⟨_, rfl⟩
            rw [hv] at H ⊢
            clear hv
            refine anyK_all (n := 0) (rs := [8]) (by kernel_rfl) (by simp) (fun i hi => ?_)
            simp only [List.mem_cons, List.not_mem_nil, or_false] at hi
            obtain rfl := hi
            refine wpOp_step rfl (fun K' hK => ?_)
            go_simp
            refine hK _ _ ⟨fun _ _ => trivial, HSA.out _ H.bel, ?_⟩
            clear hK
            refine ⟨by kernel_rfl, ?_⟩
            go_wp2_with fail
            go_meet
            exact ⟨b4, b5, rfl, rfl, rfl, Lib.hid H.done⟩
        · refine wpOp_step rfl (fun K' hK => ?_)
          go_simp
          replace H := H.alloc4
          refine hK _ _ ⟨fun _ _ => trivial, HSA.out _ H.bel, ?_⟩
          clear hK
          obtain ⟨b4, hbb⟩ : ∃ b, v.heap.size = b := ⟨_, rfl⟩
          obtain ⟨v, hv⟩ : ∃ w', v.alloc (.cells #[.bool false, .slice none 0 0, .slice none 0 0] 71) = w' := ⟨_, rfl⟩
          rw [hbb, hv] at H
          rw [hv]
          try rw [hbb]
          clear hbb hv
          refine anyK_all (n := 4) (rs := [1, 5]) (by kernel_rfl) (by simp) (fun i hi => ?_)
          simp only [List.mem_cons, List.not_mem_nil, or_false] at hi
          rcases hi with rfl | rfl
          · refine wpOp_step rfl (fun K' hK => ?_)
            go_simp
            refine (HW.out _).mono ?_
            rintro e v ⟨sg, x1, k1, l1, y1, m1, j1, rfl, hv, hb, hsg⟩
            obtain rfl : sg = false := by rw [hsg]; rfl
            replace H := (H.below hb).call1 (x1, k1, l1, y1, m1, j1) hv
            refine hK _ _ ⟨fun _ _ => trivial, HSA.out _ H.bel, ?_⟩
            clear hK hv hb hsg
            refine anyK_all (n := 3) (rs := [5]) (by kernel_rfl) (by simp) (fun i hi => ?_)
            simp only [List.mem_cons, List.not_mem_nil, or_false] at hi
            obtain rfl := hi
            refine wpOp_step rfl (fun K' hK => ?_)
            go_simp
            replace H := H.alloc5
            refine hK _ _ ⟨fun _ _ => trivial, HSA.out _ H.bel, ?_⟩
            clear hK
            obtain ⟨b5, hbb⟩ : ∃ b, v.heap.size = b := ⟨_, rfl⟩
            obtain ⟨v, hv⟩ : ∃ w', v.alloc (.cells #[.bool false, .slice none 0 0, .slice none 0 0] 71) = w' := ⟨_, rfl⟩
            rw [hbb, hv] at H
            rw [hv]
            try rw [hbb]
            clear hbb hv
            refine anyK_all (n := 2) (rs := [6]) (by kernel_rfl) (by simp) (fun i hi => ?_)
            simp only [List.mem_cons, List.not_mem_nil, or_false] at hi
            obtain rfl := hi
            refine wpOp_step rfl (fun K' hK => ?_)
            go_simp
            obtain ⟨z0, z1, z2, z3, z4, z5, z6⟩ := H.box4 rfl
            try go_simp
            replace H := H.store4
            refine hK _ _ ⟨fun _ _ => trivial, HSA.out _ H.bel, ?_⟩
            clear hK z0 z1 z2 z3 z4 z5 z6
            change anyK _ _ _ _ _ _ _ _ _ _ (put3 v b4 (.bool false) (.slice x0 l0 k0) (.slice y0 j0 m0))
            change R4 _ _ _ _ _ (put3 v b4 (.bool false) (.slice x0 l0 k0) (.slice y0 j0 m0)) at H
            obtain ⟨v, hv⟩ : ∃ w', put3 v b4 (.bool false) (.slice x0 l0 k0) (.slice y0 j0 m0) = w' := ⟨_, rfl⟩
            rw [hv] at H ⊢
            clear hv
            refine anyK_all (n := 1) (rs := [7]) (by kernel_rfl) (by simp) (fun i hi => ?_)
            simp only [List.mem_cons, List.not_mem_nil, or_false] at hi
            obtain rfl := hi
            refine wpOp_step rfl (fun K' hK => ?_)
            go_simp
            obtain ⟨z0, z1, z2, z3, z4, z5, z6⟩ := H.box5 rfl
            try go_simp
            replace H := H.store5
            refine hK _ _ ⟨fun _ _ => trivial, HSA.out _ H.bel, ?_⟩
            clear hK z0 z1 z2 z3 z4 z5 z6
            change anyK _ _ _ _ _ _ _ _ _ _ (put3 v b5 (.bool false) (.slice x1 l1 k1) (.slice y1 j1 m1))
            change R4 _ _ _ _ _ (put3 v b5 (.bool false) (.slice x1 l1 k1) (.slice y1 j1 m1)) at H
            obtain ⟨v, hv⟩ : ∃ w', put3 v b5 (.bool false) (.slice x1 l1 k1) (.slice y1 j1 m1) = w' := ⟨_, rfl⟩
            rw [hv] at H ⊢
            clear hv
            refine anyK_all (n := 0) (rs := [8]) (by kernel_rfl) (by simp) (fun i hi => ?_)
            simp only [List.mem_cons, List.not_mem_nil, or_false] at hi
            obtain rfl := hi
            refine wpOp_step rfl (fun K' hK => ?_)
            go_simp
            refine hK _ _ ⟨fun _ _ => trivial, HSA.out _ H.bel, ?_⟩
            clear hK
            refine ⟨by kernel_rfl, ?_⟩
            go_wp2_with fail
            go_meet
            exact ⟨b4, b5, rfl, rfl, rfl, Lib.hid H.done⟩
          · refine wpOp_step rfl (fun K' hK => ?_)
            go_simp
            replace H := H.alloc5
            refine hK _ _ ⟨fun _ _ => trivial, HSA.out _ H.bel, ?_⟩
            clear hK
            obtain ⟨b5, hbb⟩ : ∃ b, v.heap.size = b := ⟨_, rfl⟩
            obtain ⟨v, hv⟩ : ∃ w', v.alloc (.cells #[.bool false, .slice none 0 0, .slice none 0 0] 71) = w' := ⟨_, rfl⟩
            rw [hbb, hv] at H
            rw [hv]
            try rw [hbb]
            clear hbb hv
            refine anyK_all (n := 3) (rs := [1]) (by kernel_rfl) (by simp) (fun i hi => ?_)
            simp only [List.mem_cons, List.not_mem_nil, or_false] at hi
            obtain rfl := hi
            refine wpOp_step rfl (fun K' hK => ?_)
            go_simp
            refine (HW.out _).mono ?_
            rintro e v ⟨sg, x1, k1, l1, y1, m1, j1, rfl, hv, hb, hsg⟩
            obtain rfl : sg = false := by rw [hsg]; rfl
            replace H := (H.below hb).call1 (x1, k1, l1, y1, m1, j1) hv
            refine hK _ _ ⟨fun _ _ => trivial, HSA.out _ H.bel, ?_⟩
            clear hK hv hb hsg
            refine anyK_all (n := 2) (rs := [6]) (by kernel_rfl) (by simp) (fun i hi => ?_)
            simp only [List.mem_cons, List.not_mem_nil, or_false] at hi
            obtain rfl := hi
            refine wpOp_step rfl (fun K' hK => ?_)
            go_simp
            obtain ⟨z0, z1, z2, z3, z4, z5, z6⟩ := H.box4 rfl
            try go_simp
            replace H := H.store4
            refine hK _ _ ⟨fun _ _ => trivial, HSA.out _ H.bel, ?_⟩
            clear hK z0 z1 z2 z3 z4 z5 z6
            change anyK _ _ _ _ _ _ _ _ _ _ (put3 v b4 (.bool false) (.slice x0 l0 k0) (.slice y0 j0 m0))
            change R4 _ _ _ _ _ (put3 v b4 (.bool false) (.slice x0 l0 k0) (.slice y0 j0 m0)) at H
            obtain ⟨v, hv⟩ : ∃ w', put3 v b4 (.bool false) (.slice x0 l0 k0) (.slice y0 j0 m0) = w' := ⟨_, rfl⟩
            rw [hv] at H ⊢
            clear hv
            refine anyK_all (n := 1) (rs := [7]) (by kernel_rfl) (by simp) (fun i hi => ?_)
            simp only [List.mem_cons, List.not_mem_nil, or_false] at hi
            obtain rfl := hi
            refine wpOp_step rfl (fun K' hK => ?_)
            go_simp
            obtain ⟨z0, z1, z2, z3, z4, z5, z6⟩ := H.box5 rfl
            try go_simp
            replace H := H.store5
            refine hK _ _ ⟨fun _ _ => trivial, HSA.out _ H.bel, ?_⟩
            clear hK z0 z1 z2 z3 z4 z5 z6
            change anyK _ _ _ _ _ _ _ _ _ _ (put3 v b5 (.bool false) (.slice x1 l1 k1) (.slice y1 j1 m1))
            change R4 _ _ _ _ _ (put3 v b5 (.bool false) (.slice x1 l1 k1) (.slice y1 j1 m1)) at H
            obtain ⟨v, hv⟩ : ∃ w', put3 v b5 (.bool false) (.slice x1 l1 k1) (.slice y1 j1 m1) = w' := ⟨_, rfl⟩
            rw [hv] at H ⊢
            clear hv
            refine anyK_all (n := 0) (rs := [8]) (by kernel_rfl) (by simp) (fun i hi => ?_)
            simp only [List.mem_cons, List.not_mem_nil, or_false] at hi
            obtain rfl := hi
            refine wpOp_step rfl (fun K' hK => ?_)
            go_simp
            refine hK _ _ ⟨fun _ _ => trivial, HSA.out _ H.bel, ?_⟩
            clear hK
            refine ⟨by kernel_rfl, ?_⟩
            go_wp2_with fail
            go_meet
            exact ⟨b4, b5, rfl, rfl, rfl, Lib.hid H.done⟩
        · refine wpOp_step rfl (fun K' hK => ?_)
          go_simp
          replace H := H.alloc5
          refine hK _ _ ⟨fun _ _ => trivial, HSA.out _ H.bel, ?_⟩
          clear hK
          obtain ⟨b5, hbb⟩ : ∃ b, v.heap.size = b := ⟨_, rfl⟩
          obtain ⟨v, hv⟩ : ∃ w', v.alloc (.cells #[.bool false, .slice none 0 0, .slice none 0 0] 71) = w' := ⟨_, rfl⟩
          rw [hbb, hv] at H
          rw [hv]
          try rw [hbb]
          clear hbb hv
          refine anyK_all (n := 4) (rs := [1, 4]) (by kernel_rfl) (by simp) (fun i hi => ?_)
          simp only [List.mem_cons, List.not_mem_nil, or_false] at hi
          rcases hi with rfl | rfl
          · refine wpOp_step rfl (fun K' hK => ?_)
            go_simp
            refine (HW.out _).mono ?_
            rintro e v ⟨sg, x1, k1, l1, y1, m1, j1, rfl, hv, hb, hsg⟩
            obtain rfl : sg = false := by rw [hsg]; rfl
            replace H := (H.below hb).call1 (x1, k1, l1, y1, m1, j1) hv
            refine hK _ _ ⟨fun _ _ => trivial, HSA.out _ H.bel, ?_⟩
            clear hK hv hb hsg
            refine anyK_all (n := 3) (rs := [4]) (by kernel_rfl) (by simp) (fun i hi => ?_)
            simp only [List.mem_cons, List.not_mem_nil, or_false] at hi
            obtain rfl := hi
            refine wpOp_step rfl (fun K' hK => ?_)
            go_simp
            replace H := H.alloc4
            refine hK _ _ ⟨fun _ _ => trivial, HSA.out _ H.bel, ?_⟩
            clear hK
            obtain ⟨b4, hbb⟩ : ∃ b, v.heap.size = b := ⟨_, rfl⟩
            obtain ⟨v, hv⟩ : ∃ w', v.alloc (.cells #[.bool false, .slice none 0 0, .slice none 0 0] 71) = w' := ⟨_, rfl⟩
            rw [hbb, hv] at H
            rw [hv]
            try rw [hbb]
            clear hbb hv
            refine anyK_all (n := 2) (rs := [6]) (by kernel_rfl) (by simp) (fun i hi => ?_)
            simp only [List.mem_cons, List.not_mem_nil, or_false] at hi
            obtain rfl := hi
            refine wpOp_step rfl (fun K' hK => ?_)
            go_simp
            obtain ⟨z0, z1, z2, z3, z4, z5, z6⟩ := H.box4 rfl
            try go_simp
            replace H := H.store4
            refine hK _ _ ⟨fun _ _ => trivial, HSA.out _ H.bel, ?_⟩
            clear hK z0 z1 z2 z3 z4 z5 z6
            change anyK _ _ _ _ _ _ _ _ _ _ (put3 v b4 (.bool false) (.slice x0 l0 k0) (.slice y0 j0 m0))
            change R4 _ _ _ _ _ (put3 v b4 (.bool false) (.slice x0 l0 k0) (.slice y0 j0 m0)) at H
            obtain ⟨v, hv⟩ : ∃ w', put3 v b4 (.bool false) (.slice x0 l0 k0) (.slice y0 j0 m0) = w' := ⟨_, rfl⟩
            rw [hv] at H ⊢
            clear hv
            refine anyK_all (n := 1) (rs := [7]) (by kernel_rfl) (by simp) (fun i hi => ?_)
            simp only [List.mem_cons, List.not_mem_nil, or_false] at hi
            obtain rfl := hi
            refine wpOp_step rfl (fun K' hK => ?_)
            go_simp
            obtain ⟨z0, z1, z2, z3, z4, z5, z6⟩ := H.box5 rfl
            try go_simp
            replace H := H.store5
            refine hK _ _ ⟨fun _ _ => trivial, HSA.out _ H.bel, ?_⟩
            clear hK z0 z1 z2 z3 z4 z5 z6
            change anyK _ _ _ _ _ _ _ _ _ _ (put3 v b5 (.bool false) (.slice x1 l1 k1) (.slice y1 j1 m1))
            change R4 _ _ _ _ _ (put3 v b5 (.bool false) (.slice x1 l1 k1) (.slice y1 j1 m1)) at H
            obtain ⟨v, hv⟩ : ∃ w', put3 v b5 (.bool false) (.slice x1 l1 k1) (.slice y1 j1 m1) = w' := ⟨_, rfl⟩
            rw [hv] at H ⊢
            clear hv
            refine anyK_all (n := 0) (rs := [8]) (by kernel_rfl) (by simp) (fun i hi => ?_)
            simp only [List.mem_cons, List.not_mem_nil, or_false] at hi
            obtain rfl := hi
            refine wpOp_step rfl (fun K' hK => ?_)
            go_simp
            refine hK _ _ ⟨fun _ _ => trivial, HSA.out _ H.bel, ?_⟩
            clear hK
            refine ⟨by kernel_rfl, ?_⟩
            go_wp2_with fail
            go_meet
            exact ⟨b4, b5, rfl, rfl, rfl, Lib.hid H.done⟩
          · refine wpOp_step rfl (fun K' hK => ?_)
            go_simp
            replace H := H.alloc4
            refine hK _ _ ⟨fun _ _ => trivial, HSA.out _ H.bel, ?_⟩
            clear hK
            obtain ⟨b4, hbb⟩ : ∃ b, v.heap.size = b := ⟨_, rfl⟩
            obtain ⟨v, hv⟩ : ∃ w', v.alloc (.cells #[.bool false, .slice none 0 0, .slice none 0 0] 71) = w' := ⟨_, rfl⟩
            rw [hbb, hv] at H
            rw [hv]
            try rw [hbb]
            clear hbb hv
            refine anyK_all (n := 3) (rs := [1]) (by kernel_rfl) (by simp) (fun i hi => ?_)
            simp only [List.mem_cons, List.not_mem_nil, or_false] at hi
            obtain rfl := hi
            refine wpOp_step rfl (fun K' hK => ?_)
            go_simp
            refine (HW.out _).mono ?_
            rintro e v ⟨sg, x1, k1, l1, y1, m1, j1, rfl, hv, hb, hsg⟩
            obtain rfl : sg = false := by rw [hsg]; rfl
            replace H := (H.below hb).call1 (x1, k1, l1, y1, m1, j1) hv
            refine hK _ _ ⟨fun _ _ => trivial, HSA.out _ H.bel, ?_⟩
            clear hK hv hb hsg
            refine anyK_all (n := 2) (rs := [6]) (by kernel_rfl) (by simp) (fun i hi => ?_)
            simp only [List.mem_cons, List.not_mem_nil, or_false] at hi
            obtain rfl := hi
            refine wpOp_step rfl (fun K' hK => ?_)
            go_simp
            obtain ⟨z0, z1, z2, z3, z4, z5, z6⟩ := H.box4 rfl
            try go_simp
            replace H := H.store4
            refine hK _ _ ⟨fun _ _ => trivial, HSA.out _ H.bel, ?_⟩
            clear hK z0 z1 z2 z3 z4 z5 z6
            change anyK _ _ _ _ _ _ _ _ _ _ (put3 v b4 (.bool false) (.slice x0 l0 k0) (.slice y0 j0 m0))
            change R4 _ _ _ _ _ (put3 v b4 (.bool false) (.slice x0 l0 k0) (.slice y0 j0 m0)) at H
            obtain ⟨v, hv⟩ : ∃ w', put3 v b4 (.bool false) (.slice x0 l0 k0) (.slice y0 j0 m0) = w' := ⟨_, rfl⟩
            rw [hv] at H ⊢
            clear hv
            refine anyK_all (n := 1) (rs := [7]) (by kernel_rfl) (by simp) (fun i hi => ?_)
            simp only [List.mem_cons, List.not_mem_nil, or_false] at hi
            obtain rfl := hi
            refine wpOp_step rfl (fun K' hK => ?_)
            go_simp
            obtain ⟨z0, z1, z2, z3, z4, z5, z6⟩ := H.box5 rfl
            try go_simp
            replace H := H.store5
            refine hK _ _ ⟨fun _ _ => trivial, HSA.out _ H.bel, ?_⟩
            clear hK z0 z1 z2 z3 z4 z5 z6
            change anyK _ _ _ _ _ _ _ _ _ _ (put3 v b5 (.bool false) (.slice x1 l1 k1) (.slice y1 j1 m1))
            change R4 _ _ _ _ _ (put3 v b5 (.bool false) (.slice x1 l1 k1) (.slice y1 j1 m1)) at H
            obtain ⟨v, hv⟩ : ∃ w', put3 v b5 (.bool false) (.slice x1 l1 k1) (.slice y1 j1 m1) = w' := ⟨_, rfl⟩
            rw [hv] at H ⊢
            clear hv
            refine anyK_all (n := 0) (rs := [8]) (by kernel_rfl) (by simp) (fun i hi => ?_)
            simp only [List.mem_cons, List.not_mem_nil, or_false] at hi
            obtain rfl := hi
            refine wpOp_step rfl (fun K' hK => ?_)
            go_simp
            refine hK _ _ ⟨fun _ _ => trivial, HSA.out _ H.bel, ?_⟩
            clear hK
            refine ⟨by kernel_rfl, ?_⟩
            go_wp2_with fail
            go_meet
            exact ⟨b4, b5, rfl, rfl, rfl, Lib.hid H.done⟩
      · refine wpOp_step rfl (fun K' hK => ?_)
        go_simp
        replace H := H.alloc4
        refine hK _ _ ⟨fun _ _ => trivial, HSA.out _ H.bel, ?_⟩
        clear hK
        obtain ⟨b4, hbb⟩ : ∃ b, v.heap.size = b := ⟨_, rfl⟩
        obtain ⟨v, hv⟩ : ∃ w', v.alloc (.cells #[.bool false, .slice none 0 0, .slice none 0 0] 71) = w' := ⟨_, rfl⟩
        rw [hbb, hv] at H
        rw [hv]
        try rw [hbb]
        clear hbb hv
        refine anyK_all (n := 5) (rs := [0, 5]) (by kernel_rfl) (by simp) (fun i hi => ?_)
        simp only [List.mem_cons, List.not_mem_nil, or_false] at hi
        rcases hi with rfl | rfl
        · refine wpOp_step rfl (fun K' hK => ?_)
          go_simp
          refine (HW.out _).mono ?_
          rintro e v ⟨sg, x0, k0, l0, y0, m0, j0, rfl, hv, hb, hsg⟩
          obtain rfl : sg = false := by rw [hsg]; rfl
          replace H := (H.below hb).call0 (x0, k0, l0, y0, m0, j0) hv
          refine hK _ _ ⟨fun _ _ => trivial, HSA.out _ H.bel, ?_⟩
          clear hK hv hb hsg
          refine anyK_all (n := 4) (rs := [1, 5]) (by kernel_rfl) (by simp) (fun i hi => ?_)
          simp only [List.mem_cons, List.not_mem_nil, or_false] at hi
          rcases hi with rfl | rfl
          · refine wpOp_step rfl (fun K' hK => ?_)
            go_simp
            refine (HW.out _).mono ?_
            rintro e v ⟨sg, x1, k1, l1, y1, m1, j1, rfl, hv, hb, hsg⟩
            obtain rfl : sg = false := by rw [hsg]; rfl
            replace H := (H.below hb).call1 (x1, k1, l1, y1, m1, j1) hv
            refine hK _ _ ⟨fun _ _ => trivial, HSA.out _ H.bel, ?_⟩
            clear hK hv hb hsg
            refine anyK_all (n := 3) (rs := [5]) (by kernel_rfl) (by simp) (fun i hi => ?_)
            simp only [List.mem_cons, List.not_mem_nil, or_false] at hi
            obtain rfl := hi
            refine wpOp_step rfl (fun K' hK => ?_)
            go_simp
            replace H := H.alloc5
            refine hK _ _ ⟨fun _ _ => trivial, HSA.out _ H.bel, ?_⟩
            clear hK
            obtain ⟨b5, hbb⟩ : ∃ b, v.heap.size = b := ⟨_, rfl⟩
            obtain ⟨v, hv⟩ : ∃ w', v.alloc (.cells #[.bool false, .slice none 0 0, .slice none 0 0] 71) = w' := ⟨_, rfl⟩
            rw [hbb, hv] at H
            rw [hv]
            try rw [hbb]
            clear hbb hv
            refine anyK_all (n := 2) (rs := [6]) (by kernel_rfl) (by simp) (fun i hi => ?_)
            simp only [List.mem_cons, List.not_mem_nil, or_false] at hi
            obtain rfl := hi
            refine wpOp_step rfl (fun K' hK => ?_)
            go_simp
            obtain ⟨z0, z1, z2, z3, z4, z5, z6⟩ := H.box4 rfl
            try go_simp
            replace H := H.store4
            refine hK _ _ ⟨fun _ _ => trivial, HSA.out _ H.bel, ?_⟩
            clear hK z0 z1 z2 z3 z4 z5 z6
            change anyK _ _ _ _ _ _ _ _ _ _ (put3 v b4 (.bool false) (.slice x0 l0 k0) (.slice y0 j0 m0))
            change R4 _ _ _ _ _ (put3 v b4 (.bool false) (.slice x0 l0 k0) (.slice y0 j0 m0)) at H
            obtain ⟨v, hv⟩ : ∃ w', put3 v b4 (.bool false) (.slice x0 l0 k0) (.slice y0 j0 m0) = w' := ⟨_, rfl⟩
            rw [hv] at H ⊢
            clear hv
            refine anyK_all (n := 1) (rs := [7]) (by kernel_rfl) (by simp) (fun i hi => ?_)
            simp only [List.mem_cons, List.not_mem_nil, or_false] at hi
            obtain rfl := hi
            refine wpOp_step rfl (fun K' hK => ?_)
            go_simp
            obtain ⟨z0, z1, z2, z3, z4, z5, z6⟩ := H.box5 rfl
            try go_simp
            replace H := H.store5
            refine hK _ _ ⟨fun _ _ => trivial, HSA.out _ H.bel, ?_⟩
            clear hK z0 z1 z2 z3 z4 z5 z6
            change anyK _ _ _ _ _ _ _ _ _ _ (put3 v b5 (.bool false) (.slice x1 l1 k1) (.slice y1 j1 m1))
            change R4 _ _ _ _ _ (put3 v b5 (.bool false) (.slice x1 l1 k1) (.slice y1 j1 m1)) at H
            obtain ⟨v, hv⟩ : ∃ w', put3 v b5 (.bool false) (.slice x1 l1 k1) (.slice y1 j1 m1) = w' := ⟨_, rfl⟩
            rw [hv] at H ⊢
            clear hv
            refine anyK_all (n := 0) (rs := [8]) (by kernel_rfl) (by simp) (fun i hi => ?_)
            simp only [List.mem_cons, List.not_mem_nil, or_false] at hi
            obtain rfl := hi
            refine wpOp_step rfl (fun K' hK => ?_)
            go_simp
            refine hK _ _ ⟨fun _ _ => trivial, HSA.out _ H.bel, ?_⟩
            clear hK
            refine ⟨by kernel_rfl, ?_⟩
            go_wp2_with fail
            go_meet
            exact ⟨b4, b5, rfl, rfl, rfl, Lib.hid H.done⟩
          · refine wpOp_step rfl (fun K' hK => ?_)
            go_simp
            replace H := H.alloc5
            refine hK _ _ ⟨fun _ _ => trivial, HSA.out _ H.bel, ?_⟩
            clear hK
            obtain ⟨b5, hbb⟩ : ∃ b, v.heap.size = b := ⟨_, rfl⟩
            obtain ⟨v, hv⟩ : ∃ w', v.alloc (.cells #[.bool false, .slice none 0 0, .slice none 0 0] 71) = w' := ⟨_, rfl⟩
            rw [hbb, hv] at H
            rw [hv]
            try rw [hbb]
            clear hbb hv
            refine anyK_all (n := 3) (rs := [1]) (by kernel_rfl) (by simp) (fun i hi => ?_)
            simp only [List.mem_cons, List.not_mem_nil, or_false] at hi
            obtain rfl := hi
            refine wpOp_step rfl (fun K' hK => ?_)
            go_simp
            refine (HW.out _).mono ?_
            rintro e v ⟨sg, x1, k1, l1, y1, m1, j1, rfl, hv, hb, hsg⟩
            obtain rfl : sg = false := by rw [hsg]; rfl
            replace H := (H.below hb).call1 (x1, k1, l1, y1, m1, j1) hv
            refine hK _ _ ⟨fun _ _ => trivial, HSA.out _ H.bel, ?_⟩
            clear hK hv hb hsg
            refine anyK_all (n := 2) (rs := [6]) (by kernel_rfl) (by simp) (fun i hi => ?_)
            simp only [List.mem_cons, List.not_mem_nil, or_false] at hi
            obtain rfl := hi
            refine wpOp_step rfl (fun K' hK => ?_)
            go_simp
            obtain ⟨z0, z1, z2, z3, z4, z5, z6⟩ := H.box4 rfl
            try go_simp
            replace H := H.store4
            refine hK _ _ ⟨fun _ _ => trivial, HSA.out _ H.bel, ?_⟩
            clear hK z0 z1 z2 z3 z4 z5 z6
            change anyK _ _ _ _ _ _ _ _ _ _ (put3 v b4 (.bool false) (.slice x0 l0 k0) (.slice y0 j0 m0))
            change R4 _ _ _ _ _ (put3 v b4 (.bool false) (.slice x0 l0 k0) (.slice y0 j0 m0)) at H
            obtain ⟨v, hv⟩ : ∃ w', put3 v b4 (.bool false) (.slice x0 l0 k0) (.slice y0 j0 m0) = w' := ⟨_, rfl⟩
            rw [hv] at H ⊢
            clear hv
            refine anyK_all (n := 1) (rs := [7]) (by kernel_rfl) (by simp) (fun i hi => ?_)
            simp only [List.mem_cons, List.not_mem_nil, or_false] at hi
            obtain rfl := hi
            refine wpOp_step rfl (fun K' hK => ?_)
            go_simp
            obtain ⟨z0, z1, z2, z3, z4, z5, z6⟩ := H.box5 rfl
            try go_simp
            replace H := H.store5
            refine hK _ _ ⟨fun _ _ => trivial, HSA.out _ H.bel, ?_⟩
            clear hK z0 z1 z2 z3 z4 z5 z6
            change anyK _ _ _ _ _ _ _ _ _ _ (put3 v b5 (.bool false) (.slice x1 l1 k1) (.slice y1 j1 m1))
            change R4 _ _ _ _ _ (put3 v b5 (.bool false) (.slice x1 l1 k1) (.slice y1 j1 m1)) at H
            obtain ⟨v, hv⟩ : ∃ w', put3 v b5 (.bool false) (.slice x1 l1 k1) (.slice y1 j1 m1) = w' := ⟨_, rfl⟩
            rw [hv] at H ⊢
            clear hv
            refine anyK_all (n := 0) (rs := [8]) (by kernel_rfl) (by simp) (fun i hi => ?_)
            simp only [List.mem_cons, List.not_mem_nil, or_false] at hi
            obtain rfl := hi
            refine wpOp_step rfl (fun K' hK => ?_)
            go_simp
            refine hK _ _ ⟨fun _ _ => trivial, HSA.out _ H.bel, ?_⟩
            clear hK
            refine ⟨by kernel_rfl, ?_⟩
            go_wp2_with fail
            go_meet
            exact ⟨b4, b5, rfl, rfl, rfl, Lib.hid H.done⟩
        · refine wpOp_step rfl (fun K' hK => ?_)
          go_simp
          replace H := H.alloc5
          refine hK _ _ ⟨fun _ _ => trivial, HSA.out _ H.bel, ?_⟩
          clear hK
          obtain ⟨b5, hbb⟩ : ∃ b, v.heap.size = b := ⟨_, rfl⟩
          obtain ⟨v, hv⟩ : ∃ w', v.alloc (.cells #[.bool false, .slice none 0 0, .slice none 0 0] 71) = w' := ⟨_, rfl⟩
          rw [hbb, hv] at H
          rw [hv]
          try rw [hbb]
          clear hbb hv
          refine anyK_all (n := 4) (rs := [0]) (by kernel_rfl) (by simp) (fun i hi => ?_)
          simp only [List.mem_cons, List.not_mem_nil, or_false] at hi
          obtain rfl := hi
          refine wpOp_step rfl (fun K' hK => ?_)
          go_simp
          refine (HW.out _).mono ?_
          rintro e v ⟨sg, x0, k0, l0, y0, m0, j0, rfl, hv, hb, hsg⟩
          obtain rfl : sg = false := by rw [hsg]; rfl
          replace H := (H.below hb).call0 (x0, k0, l0, y0, m0, j0) hv
          refine hK _ _ ⟨fun _ _ => trivial, HSA.out _ H.bel, ?_⟩
          clear hK hv hb hsg
          refine anyK_all (n := 3) (rs := [1]) (by kernel_rfl) (by simp) (fun i hi => ?_)
          simp only [List.mem_cons, List.not_mem_nil, or_false] at hi
          obtain rfl := hi
          refine wpOp_step rfl (fun K' hK => ?_)
          go_simp
          refine (HW.out _).mono ?_
          rintro e v ⟨sg, x1, k1, l1, y1, m1, j1, rfl, hv, hb, hsg⟩
          obtain rfl : sg = false := by rw [hsg]; rfl
          replace H := (H.below hb).call1 (x1, k1, l1, y1, m1, j1) hv
          refine hK _ _ ⟨fun _ _ => trivial, HSA.out _ H.bel, ?_⟩
          clear hK hv hb hsg
          refine anyK_all (n := 2) (rs := [6]) (by kernel_rfl) (by simp) (fun i hi => ?_)
          simp only [List.mem_cons, List.not_mem_nil, or_false] at hi
          obtain rfl := hi
          refine wpOp_step rfl (fun K' hK => ?_)
          go_simp
          obtain ⟨z0, z1, z2, z3, z4, z5, z6⟩ := H.box4 rfl
          try go_simp
          replace H := H.store4
          refine hK _ _ ⟨fun _ _ => trivial, HSA.out _ H.bel, ?_⟩
          clear hK z0 z1 z2 z3 z4 z5 z6
          change anyK _ _ _ _ _ _ _ _ _ _ (put3 v b4 (.bool false) (.slice x0 l0 k0) (.slice y0 j0 m0))
          change R4 _ _ _ _ _ (put3 v b4 (.bool false) (.slice x0 l0 k0) (.slice y0 j0 m0)) at H
          obtain ⟨v, hv⟩ : ∃ w', put3 v b4 (.bool false) (.slice x0 l0 k0) (.slice y0 j0 m0) = w' := ⟨_, rfl⟩
          rw [hv] at H ⊢
          clear hv
          refine anyK_all (n := 1) (rs := [7]) (by kernel_rfl) (by simp) (fun i hi => ?_)
          simp only [List.mem_cons, List.not_mem_nil, or_false] at hi
          obtain rfl := hi
          refine wpOp_step rfl (fun K' hK => ?_)
          go_simp
          obtain ⟨z0, z1, z2, z3, z4, z5, z6⟩ := H.box5 rfl
          try go_simp
          replace H := H.store5
          refine hK _ _ ⟨fun _ _ => trivial, HSA.out _ H.bel, ?_⟩
          clear hK z0 z1 z2 z3 z4 z5 z6
          change anyK _ _ _ _ _ _ _ _ _ _ (put3 v b5 (.bool false) (.slice x1 l1 k1) (.slice y1 j1 m1))
          change R4 _ _ _ _ _ (put3 v b5 (.bool false) (.slice x1 l1 k1) (.slice y1 j1 m1)) at H
          obtain ⟨v, hv⟩ : ∃ w', put3 v b5 (.bool false) (.slice x1 l1 k1) (.slice y1 j1 m1) = w' := ⟨_, rfl⟩
          rw [hv] at H ⊢
          clear hv
          refine anyK_all (n := 0) (rs := [8]) (by kernel_rfl) (by simp) (fun i hi => ?_)
          simp only [List.mem_cons, List.not_mem_nil, or_false] at hi
          obtain rfl := hi
          refine wpOp_step rfl (fun K' hK => ?_)
          go_simp
          refine hK _ _ ⟨fun _ _ => trivial, HSA.out _ H.bel, ?_⟩
          clear hK
          refine ⟨by kernel_rfl, ?_⟩
          go_wp2_with fail
          go_meet
          exact ⟨b4, b5, rfl, rfl, rfl, Lib.hid H.done⟩
      · refine wpOp_step rfl (fun K' hK => ?_)
        go_simp
        replace H := H.alloc5
        refine hK _ _ ⟨fun _ _ => trivial, HSA.out _ H.bel, ?_⟩
        clear hK
        obtain ⟨b5, hbb⟩ : ∃ b, v.heap.size = b := ⟨_, rfl⟩
        obtain ⟨v, hv⟩ : ∃ w', v.alloc (.cells #[.bool false, .slice none 0 0, .slice none 0 0] 71) = w' := ⟨_, rfl⟩
        rw [hbb, hv] at H
        rw [hv]
        try rw [hbb]
        clear hbb hv
        refine anyK_all (n := 5) (rs := [0, 4]) (by kernel_rfl) (by simp) (fun i hi => ?_)
        simp only [List.mem_cons, List.not_mem_nil, or_false] at hi
        rcases hi with rfl | rfl
        · refine wpOp_step rfl (fun K' hK => ?_)
          go_simp
          refine (HW.out _).mono ?_
          rintro e v ⟨sg, x0, k0, l0, y0, m0, j0, rfl, hv, hb, hsg⟩
          obtain rfl : sg = false := by rw [hsg]; rfl
          replace H := (H.below hb).call0 (x0, k0, l0, y0, m0, j0) hv
          refine hK _ _ ⟨fun _ _ => trivial, HSA.out _ H.bel, ?_⟩
          clear hK hv hb hsg
          refine anyK_all (n := 4) (rs := [1, 4]) (by kernel_rfl) (by simp) (fun i hi => ?_)
          simp only [List.mem_cons, List.not_mem_nil, or_false] at hi
          rcases hi with rfl | rfl
          · refine wpOp_step rfl (fun K' hK => ?_)
            go_simp
            refine (HW.out _).mono ?_
            rintro e v ⟨sg, x1, k1, l1, y1, m1, j1, rfl, hv, hb, hsg⟩
            obtain rfl : sg = false := by rw [hsg]; rfl
            replace H := (H.below hb).call1 (x1, k1, l1, y1, m1, j1) hv
            refine hK _ _ ⟨fun _ _ => trivial, HSA.out _ H.bel, ?_⟩
            clear hK hv hb hsg
            refine anyK_all (n := 3) (rs := [4]) (by kernel_rfl) (by simp) (fun i hi => ?_)
            simp only [List.mem_cons, List.not_mem_nil, or_false] at hi
            obtain rfl := hi
            refine wpOp_step rfl (fun K' hK => ?_)
            go_simp
            replace H := H.alloc4
            refine hK _ _ ⟨fun _ _ => trivial, HSA.out _ H.bel, ?_⟩
            clear hK
            obtain ⟨b4, hbb⟩ : ∃ b, v.heap.size = b := ⟨_, rfl⟩
            obtain ⟨v, hv⟩ : ∃ w', v.alloc (.cells #[.bool false, .slice none 0 0, .slice none 0 0] 71) = w' := ⟨_, rfl⟩
            rw [hbb, hv] at H
            rw [hv]
            try rw [hbb]
            clear hbb hv
            refine anyK_all (n := 2) (rs := [6]) (by kernel_rfl) (by simp) (fun i hi => ?_)
            simp only [List.mem_cons, List.not_mem_nil, or_false] at hi
            obtain rfl := hi
            refine wpOp_step rfl (fun K' hK => ?_)
            go_simp
            obtain ⟨z0, z1, z2, z3, z4, z5, z6⟩ := H.box4 rfl
            try go_simp
            replace H := H.store4
            refine hK _ _ ⟨fun _ _ => trivial, HSA.out _ H.bel, ?_⟩
            clear hK z0 z1 z2 z3 z4 z5 z6
            change anyK _ _ _ _ _ _ _ _ _ _ (put3 v b4 (.bool false) (.slice x0 l0 k0) (.slice y0 j0 m0))
            change R4 _ _ _ _ _ (put3 v b4 (.bool false) (.slice x0 l0 k0) (.slice y0 j0 m0)) at H
            obtain ⟨v, hv⟩ : ∃ w', put3 v b4 (.bool false) (.slice x0 l0 k0) (.slice y0 j0 m0) = w' := ⟨_, rfl⟩
            rw [hv] at H ⊢
            clear hv
            refine anyK_all (n := 1) (rs := [7]) (by kernel_rfl) (by simp) (fun i hi => ?_)
            simp only [List.mem_cons, List.not_mem_nil, or_false] at hi
            obtain rfl := hi
            refine wpOp_step rfl (fun K' hK => ?_)
            go_simp
            obtain ⟨z0, z1, z2, z3, z4, z5, z6⟩ := H.box5 rfl
            try go_simp
            replace H := H.store5
            refine hK _ _ ⟨fun _ _ => trivial, HSA.out _ H.bel, ?_⟩
            clear hK z0 z1 z2 z3 z4 z5 z6
            change anyK _ _ _ _ _ _ _ _ _ _ (put3 v b5 (.bool false) (.slice x1 l1 k1) (.slice y1 j1 m1))
            change R4 _ _ _ _ _ (put3 v b5 (.bool false) (.slice x1 l1 k1) (.slice y1 j1 m1)) at H
            obtain ⟨v, hv⟩ : ∃ w', put3 v b5 (.bool false) (.slice x1 l1 k1) (.slice y1 j1 m1) = w' := ⟨_, rfl⟩
            rw [hv] at H ⊢
            clear hv
            refine anyK_all (n := 0) (rs := [8]) (by kernel_rfl) (by simp) (fun i hi => ?_)
            simp only [List.mem_cons, List.not_mem_nil, or_false] at hi
            obtain rfl := hi
            refine wpOp_step rfl (fun K' hK => ?_)
            go_simp
            refine hK _ _ ⟨fun _ _ => trivial, HSA.out _ H.bel, ?_⟩
            clear hK
            refine ⟨by kernel_rfl, ?_⟩
            go_wp2_with fail
            go_meet
            exact ⟨b4, b5, rfl, rfl, rfl, Lib.hid H.done⟩
          · refine wpOp_step rfl (fun K' hK => ?_)
            go_simp
            replace H := H.alloc4
            refine hK _ _ ⟨fun _ _ => trivial, HSA.out _ H.bel, ?_⟩
            clear hK
            obtain ⟨b4, hbb⟩ : ∃ b, v.heap.size = b := ⟨_, rfl⟩
            obtain ⟨v, hv⟩ : ∃ w', v.alloc (.cells #[.bool false, .slice none 0 0, .slice none 0 0] 71) = w' := ⟨_, rfl⟩
            rw [hbb, hv] at H
            rw [hv]
            try rw [hbb]
            clear hbb hv
            refine anyK_all (n := 3) (rs := [1]) (by kernel_rfl) (by simp) (fun i hi => ?_)
            simp only [List.mem_cons, List.not_mem_nil, or_false] at hi
            obtain rfl := hi
            refine wpOp_step rfl (fun K' hK => ?_)
            go_simp
            refine (HW.out _).mono ?_
            rintro e v ⟨sg, x1, k1, l1, y1, m1, j1, rfl, hv, hb, hsg⟩
            obtain rfl : sg = false := by rw [hsg]; rfl
            replace H := (H.below hb).call1 (x1, k1, l1, y1, m1, j1) hv
            refine hK _ _ ⟨fun _ _ => trivial, HSA.out _ H.bel, ?_⟩
            clear hK hv hb hsg
            refine anyK_all (n := 2) (rs := [6]) (by kernel_rfl) (by simp) (fun i hi => ?_)
            simp only [List.mem_cons, List.not_mem_nil, or_false] at hi
            obtain rfl := hi
            refine wpOp_step rfl (fun K' hK => ?_)
            go_simp
            obtain ⟨z0, z1, z2, z3, z4, z5, z6⟩ := H.box4 rfl
            try go_simp
            replace H := H.store4
            refine hK _ _ ⟨fun _ _ => trivial, HSA.out _ H.bel, ?_⟩
            clear hK z0 z1 z2 z3 z4 z5 z6
            change anyK _ _ _ _ _ _ _ _ _ _ (put3 v b4 (.bool false) (.slice x0 l0 k0) (.slice y0 j0 m0))
            change R4 _ _ _ _ _ (put3 v b4 (.bool false) (.slice x0 l0 k0) (.slice y0 j0 m0)) at H
            obtain ⟨v, hv⟩ : ∃ w', put3 v b4 (.bool false) (.slice x0 l0 k0) (.slice y0 j0 m0) = w' := ⟨_, rfl⟩
            rw [hv] at H ⊢
            clear hv
            refine anyK_all (n := 1) (rs := [7]) (by kernel_rfl) (by simp) (fun i hi => ?_)
            simp only [List.mem_cons, List.not_mem_nil, or_false] at hi
            obtain rfl := hi
            refine wpOp_step rfl (fun K' hK => ?_)
            go_simp
            obtain ⟨z0, z1, z2, z3, z4, z5, z6⟩ := H.box5 rfl
            try go_simp
            replace H := H.store5
            refine hK _ _ ⟨fun _ _ => trivial, HSA.out _ H.bel, ?_⟩
            clear hK z0 z1 z2 z3 z4 z5 z6
            change anyK _ _ _ _ _ _ _ _ _ _ (put3 v b5 (.bool false) (.slice x1 l1 k1) (.slice y1 j1 m1))
            change R4 _ _ _ _ _ (put3 v b5 (.bool false) (.slice x1 l1 k1) (.slice y1 j1 m1)) at H
            obtain ⟨v, hv⟩ : ∃ w', put3 v b5 (.bool false) (.slice x1 l1 k1) (.slice y1 j1 m1) = w' := ⟨_, rfl⟩
            rw [hv] at H ⊢
            clear hv
            refine anyK_all (n := 0) (rs := [8]) (by kernel_rfl) (by simp) (fun i hi => ?_)
            simp only [List.mem_cons, List.not_mem_nil, or_false] at hi
            obtain rfl := hi
            refine wpOp_step rfl (fun K' hK => ?_)
            go_simp
            refine hK _ _ ⟨fun _ _ => trivial, HSA.out _ H.bel, ?_⟩
            clear hK
            refine ⟨by kernel_rfl, ?_⟩
            go_wp2_with fail
            go_meet
            exact ⟨b4, b5, rfl, rfl, rfl, Lib.hid H.done⟩
        · refine wpOp_step rfl (fun K' hK => ?_)
          go_simp
          replace H := H.alloc4
          refine hK _ _ ⟨fun _ _ => trivial, HSA.out _ H.bel, ?_⟩
          clear hK
          obtain ⟨b4, hbb⟩ : ∃ b, v.heap.size = b := ⟨_, rfl⟩
          obtain ⟨v, hv⟩ : ∃ w', v.alloc (.cells #[.bool false, .slice none 0 0, .slice none 0 0] 71) = w' := ⟨_, rfl⟩
          rw [hbb, hv] at H
          rw [hv]
          try rw [hbb]
          clear hbb hv
          refine anyK_all (n := 4) (rs := [0]) (by kernel_rfl) (by simp) (fun i hi => ?_)
          simp only [List.mem_cons, List.not_mem_nil, or_false] at hi
          obtain rfl := hi
          refine wpOp_step rfl (fun K' hK => ?_)
          go_simp
          refine (HW.out _).mono ?_
          rintro e v ⟨sg, x0, k0, l0, y0, m0, j0, rfl, hv, hb, hsg⟩
          obtain rfl : sg = false := by rw [hsg]; rfl
          replace H := (H.below hb).call0 (x0, k0, l0, y0, m0, j0) hv
          refine hK _ _ ⟨fun _ _ => trivial, HSA.out _ H.bel, ?_⟩
          clear hK hv hb hsg
          refine anyK_all (n := 3) (rs := [1]) (by kernel_rfl) (by simp) (fun i hi => ?_)
          simp only [List.mem_cons, List.not_mem_nil, or_false] at hi
          obtain rfl := hi
          refine wpOp_step rfl (fun K' hK => ?_)
          go_simp
          refine (HW.out _).mono ?_
          rintro e v ⟨sg, x1, k1, l1, y1, m1, j1, rfl, hv, hb, hsg⟩
          obtain rfl : sg = false := by rw [hsg]; rfl
          replace H := (H.below hb).call1 (x1, k1, l1, y1, m1, j1) hv
          refine hK _ _ ⟨fun _ _ => trivial, HSA.out _ H.bel, ?_⟩
          clear hK hv hb hsg
          refine anyK_all (n := 2) (rs := [6]) (by kernel_rfl) (by simp) (fun i hi => ?_)
          simp only [List.mem_cons, List.not_mem_nil, or_false] at hi
          obtain rfl := hi
          refine wpOp_step rfl (fun K' hK => ?_)
          go_simp
          obtain ⟨z0, z1, z2, z3, z4, z5, z6⟩ := H.box4 rfl
          try go_simp
          replace H := H.store4
          refine hK _ _ ⟨fun _ _ => trivial, HSA.out _ H.bel, ?_⟩
          clear hK z0 z1 z2 z3 z4 z5 z6
          change anyK _ _ _ _ _ _ _ _ _ _ (put3 v b4 (.bool false) (.slice x0 l0 k0) (.slice y0 j0 m0))
          change R4 _ _ _ _ _ (put3 v b4 (.bool false) (.slice x0 l0 k0) (.slice y0 j0 m0)) at H
          obtain ⟨v, hv⟩ : ∃ w', put3 v b4 (.bool false) (.slice x0 l0 k0) (.slice y0 j0 m0) = w' := ⟨_, rfl⟩
          rw [hv] at H ⊢
          clear hv
          refine anyK_all (n := 1) (rs := [7]) (by kernel_rfl) (by simp) (fun i hi => ?_)
          simp only [List.mem_cons, List.not_mem_nil, or_false] at hi
          obtain rfl := hi
          refine wpOp_step rfl (fun K' hK => ?_)
          go_simp
          obtain ⟨z0, z1, z2, z3, z4, z5, z6⟩ := H.box5 rfl
          try go_simp
          replace H := H.store5
          refine hK _ _ ⟨fun _ _ => trivial, HSA.out _ H.bel, ?_⟩
          clear hK z0 z1 z2 z3 z4 z5 z6
          change anyK _ _ _ _ _ _ _ _ _ _ (put3 v b5 (.bool false) (.slice x1 l1 k1) (.slice y1 j1 m1))
          change R4 _ _ _ _ _ (put3 v b5 (.bool false) (.slice x1 l1 k1) (.slice y1 j1 m1)) at H
          obtain ⟨v, hv⟩ : ∃ w', put3 v b5 (.bool false) (.slice x1 l1 k1) (.slice y1 j1 m1) = w' := ⟨_, rfl⟩
          rw [hv] at H ⊢
          clear hv
          refine anyK_all (n := 0) (rs := [8]) (by kernel_rfl) (by simp) (fun i hi => ?_)
          simp only [List.mem_cons, List.not_mem_nil, or_false] at hi
          obtain rfl := hi
          refine wpOp_step rfl (fun K' hK => ?_)
          go_simp
          refine hK _ _ ⟨fun _ _ => trivial, HSA.out _ H.bel, ?_⟩
          clear hK
          refine ⟨by kernel_rfl, ?_⟩
          go_wp2_with fail
          go_meet
          exact ⟨b4, b5, rfl, rfl, rfl, Lib.hid H.done⟩
    case rest =>
      obtain ⟨b6, b7, rfl, rfl, rfl, HD⟩ := hcut
      obtain ⟨wd, hwd⟩ : ∃ x : World, x = wc := ⟨_, rfl⟩
      subst hwd
      have hge : w.heap.size + 1 < wq.heap.size := H3.out.1.lt
      have hbd := HD.out.2.2.2.2.2
      have H4 := Lib.hid (show DcI w wd b6 b7 n (dcS n B 0) (dcA n B 0) from ⟨by rw [HB1.out]; exact (hbd.cell (p := ⟨b1, 0, none⟩) (World.block_lt_of_cell? wq _ HC2.out)).trans HC2.out, H3.out.1.all hbd, HD.out.1, HD.out.2.1, HD.out.2.2.1, by have := HD.out.2.2.2.1; omega, by have := HD.out.2.2.2.2.1; omega, bthen H3.out.2 hbd⟩)
      have hKw : IntKind.i64.wrap ((B : Int) + (L : Int)) = (K : Int) := by rw [← HLL.out, IntWalk.i64_in _ (by omega)]; omega
      have hstart : (z0 : Int) = ((dcR n 0 : Nat) : Int) := by rw [← HZ0.out]; rfl
      rw [hstart]
      clear hge hbd HD H3 HC2 HW hm1 hm2 hstart
      rw [← HB1.out]
      clear hlt1
      go_wp2_with fail
      go_loopw [30, 8] (fun v30 v8 wr => ∃ m : Nat, m ≤ K ∧ v30 = .int .i64 (m : Nat) ∧ v8 = .int .i64 ((dcR n m : Nat) : Int) ∧ Hid (DcI w wr b6 b7 n (dcS n B m) (dcA n B m))) (fun i _ _ => K - (intOf i).toNat)
      case atStart => exact ⟨0, Nat.zero_le _, rfl, rfl, H4⟩
      case round =>
        clear H4
        obtain ⟨m, hm, rfl, rfl, HT⟩ := hrel
        rename_i wr
        by_cases hmK : m < K
        · have hmi : (m:Int) < (K:Int) := by omega
          have hm0 : (0:Int) ≤ (m:Int) := by omega
          have hrl := dcR_lt h0 m
          have hrs := dcR_succ n m
          have hsS : m < B → dcS n B (m + 1) = dcS n B m + mkRat ((dcR n m : Nat) : Int) (2 ^ m) := fun h => by rw [dcS, if_pos h]
          have hsA : ¬ m < B → dcA n B (m + 1) = dcA n B m + mkRat ((dcR n m : Nat) : Int) (2 ^ m) := fun h => by rw [dcA, if_neg h]
          have hsS2 : ¬ m < B → dcS n B (m + 1) = dcS n B m := fun h => by rw [dcS, if_neg h]
          have hsA2 : m < B → dcA n B (m + 1) = dcA n B m := fun h => by rw [dcA, if_pos h]
          have hQb : 2 ^ m ≤ 4294967296 := Nat.pow_le_pow_right (n := 2) (by omega) (show m ≤ 32 by omega)
          have hQ0 : 0 < 2 ^ m := Nat.pow_pos (by omega)
          obtain ⟨r, hr⟩ : ∃ r, dcR n m = r := ⟨_, rfl⟩
          obtain ⟨G, hG⟩ : ∃ G, 2 ^ m = G := ⟨_, rfl⟩
          rw [hr, hG] at hsS hsA
          rw [hr] at hrl hrs
          rw [hG] at hQb hQ0
          rw [hr]
          have hpow : (2 : Int) ^ m = (G : Int) := by rw [← hG]; simp
          have hpw : IntKind.i64.wrap (G : Int) = (G : Int) := IntWalk.i64_in _ (by omega)
          have HQ := Lib.hid (fun w => quotient_rr r G w (by omega) (by omega) hQ0)
          have HQB := Lib.hid (show bitsR (mkRat (r : Int) G) 60 from bits_nat hQ0 (by omega) (by omega))
          have hmul : IntKind.i64.wrap (2 * (r : Int)) = 2 * (r : Int) := IntWalk.i64_in _ (by omega)
          have hmo : (2 * (r : Int)) % (n : Int) = ((dcR n (m + 1) : Nat) : Int) := by rw [← hrs, Int.natCast_emod, Int.natCast_mul]; rfl
          have hmo2 : (2 * (r : Int)).tmod (n : Int) = ((dcR n (m + 1) : Nat) : Int) := by rw [Int.tmod_eq_emod_of_nonneg (by omega)]; exact hmo
          have HSS := Lib.hid (And.intro hsS (And.intro hsA (And.intro hsS2 hsA2)))
          clear hr hG hrs hsS hsA hsS2 hsA2
          go_wp2_with fail
          refine (HQ.out _).mono ?_
          rintro e w4 ⟨sg, x1, k1, l1, x2, k2, l2, rfl, hv, hb, hsg⟩
          have hb4 : Below w4.heap.size w4 (w4.alloc (.cells #[.bool sg, .slice x1 l1 k1, .slice x2 l2 k2] 71)) := (Below.refl _ _).alloc (Nat.le_refl _) _
          have H4 := Lib.hid (And.intro (HT.out.all (bthen hb hb4)) (And.intro (C3.new w4 71 (.bool sg) (.slice x1 l1 k1) (.slice x2 l2 k2)) (And.intro (hv.below hb4) hsg)))
          clear hv hb hb4 hsg HT HQ
          obtain ⟨b10, hb10⟩ : ∃ b, w4.heap.size = b := ⟨_, rfl⟩
          obtain ⟨wB, hwB⟩ : ∃ w', w4.alloc (.cells #[.bool sg, .slice x1 l1 k1, .slice x2 l2 k2] 71) = w' := ⟨_, rfl⟩
          rw [hwB, hb10] at H4
          have HWB := Lib.hid (And.intro hwB hb10)
          clear hwB hb10
          go_upto_region 9 with fail
          rw [HWB.out.1]
          try rw [HWB.out.2]
          clear HWB
          obtain ⟨y0, y1, y2, y3, y4, y5, y6⟩ := H4.out.2.1
          by_cases hmB : m < B
          · have hmBi : (m:Int) < (B:Int) := by omega
            obtain ⟨u1, g1, s1, u2, g2, s2, hC, hR⟩ := H4.out.1.x6
            obtain ⟨sg6, hs6⟩ : ∃ b, decide ((dcS n B m).num < 0) = b := ⟨_, rfl⟩
            rw [hs6] at hC
            have HPL := Lib.hid (plus_rr (dcS n B m) (mkRat (r : Int) G) 120 60 u1 u2 x1 x2 g1 g2 k1 k2 s1 s2 l1 l2 wB hR H4.out.2.2.1 (HGG.out.s m hm) HQB.out (by omega) (by omega))
            rw [hs6, ← H4.out.2.2.2] at HPL
            have HZ1 := Lib.hid (HSS.out.1 hmB)
            have HZ2 := Lib.hid (HSS.out.2.2.2 hmB)
            rw [← HZ1.out] at HPL
            clear hs6 hR
            obtain ⟨z0, z1, z2, z3, z4, z5, z6⟩ := hC
            go_wp2_with fail
            refine HPL.out.mono ?_
            rintro e w5 ⟨sgn, v1, e1, f1, v2, e2, f2, rfl, hv, hb, hsg⟩
            have H5 := Lib.hid (And.intro (H4.out.1.all hb) (And.intro hv hsg))
            clear hv hb hsg HPL H4 y0 y1 y2 y3 y4 y5 y6 z0 z1 z2 z3 z4 z5 z6
            obtain ⟨t1, t2, t3, t4, t5, t6, hC, -⟩ := H5.out.1.x6
            have H6 := Lib.hid (show DcI w (put3 w5 b6 (.bool sgn) (.slice v1 f1 e1) (.slice v2 f2 e2)) b6 b7 n (dcS n B (m + 1)) (dcA n B (m + 1)) from
              ⟨by rw [put3_cell (by have := H5.out.1.g6; omega)]; exact H5.out.1.c1, put3_other H5.out.1.c2 (by have := H5.out.1.g6; omega) _ _ _, ⟨v1, e1, f1, v2, e2, f2, by rw [← H5.out.2.2]; exact put3_box hC _ _ _, H5.out.2.1.ints (put3_ints hC _ _ _)⟩, by rw [HZ2.out]; exact RBox.put H5.out.1.x7 hC H5.out.1.ne, H5.out.1.ne, H5.out.1.g6, H5.out.1.g7, put3_below H5.out.1.bel (by have := H5.out.1.g6; omega) _ _ _⟩)
            obtain ⟨z0, z1, z2, z3, z4, z5, z6⟩ := hC
            go_upto_region 12 with fail
            obtain ⟨w6, hw6⟩ : ∃ w', ((w5.setCell ⟨b6, 0, none⟩ (.bool sgn)).setCell ⟨b6, 1, none⟩ (.slice v1 f1 e1)).setCell ⟨b6, 2, none⟩ (.slice v2 f2 e2) = w' := ⟨_, rfl⟩
            unfold put3 at H6
            rw [hw6] at H6
            rw [hw6]
            clear hw6 H5 z0 z1 z2 z3 z4 z5 z6
            have hcn := H6.out.c1
            go_wp2_with fail
            go_roundw
            case rel => exact ⟨m + 1, by omega, by go_num, rfl, H6⟩
            case measure => simp [intOf]; omega
          · have hmBi : ¬ (m:Int) < (B:Int) := by omega
            obtain ⟨u1, g1, s1, u2, g2, s2, hC, hR⟩ := H4.out.1.x7
            obtain ⟨sg6, hs6⟩ : ∃ b, decide ((dcA n B m).num < 0) = b := ⟨_, rfl⟩
            rw [hs6] at hC
            have HPL := Lib.hid (plus_rr (dcA n B m) (mkRat (r : Int) G) 120 60 u1 u2 x1 x2 g1 g2 k1 k2 s1 s2 l1 l2 wB hR H4.out.2.2.1 (HGG.out.a m hm) HQB.out (by omega) (by omega))
            rw [hs6, ← H4.out.2.2.2] at HPL
            have HZ1 := Lib.hid (HSS.out.2.1 hmB)
            have HZ2 := Lib.hid (HSS.out.2.2.1 hmB)
            rw [← HZ1.out] at HPL
            clear hs6 hR
            obtain ⟨z0, z1, z2, z3, z4, z5, z6⟩ := hC
            go_wp2_with fail
            refine HPL.out.mono ?_
            rintro e w5 ⟨sgn, v1, e1, f1, v2, e2, f2, rfl, hv, hb, hsg⟩
            have H5 := Lib.hid (And.intro (H4.out.1.all hb) (And.intro hv hsg))
            clear hv hb hsg HPL H4 y0 y1 y2 y3 y4 y5 y6 z0 z1 z2 z3 z4 z5 z6
            obtain ⟨t1, t2, t3, t4, t5, t6, hC, -⟩ := H5.out.1.x7
            have H6 := Lib.hid (show DcI w (put3 w5 b7 (.bool sgn) (.slice v1 f1 e1) (.slice v2 f2 e2)) b6 b7 n (dcS n B (m + 1)) (dcA n B (m + 1)) from
              ⟨by rw [put3_cell (by have := H5.out.1.g7; omega)]; exact H5.out.1.c1, put3_other H5.out.1.c2 (by have := H5.out.1.g7; omega) _ _ _, by rw [HZ2.out]; exact RBox.put H5.out.1.x6 hC (fun e => H5.out.1.ne e.symm), ⟨v1, e1, f1, v2, e2, f2, by rw [← H5.out.2.2]; exact put3_box hC _ _ _, H5.out.2.1.ints (put3_ints hC _ _ _)⟩, H5.out.1.ne, H5.out.1.g6, H5.out.1.g7, put3_below H5.out.1.bel (by have := H5.out.1.g7; omega) _ _ _⟩)
            obtain ⟨z0, z1, z2, z3, z4, z5, z6⟩ := hC
            go_upto_region 12 with fail
            obtain ⟨w6, hw6⟩ : ∃ w', ((w5.setCell ⟨b7, 0, none⟩ (.bool sgn)).setCell ⟨b7, 1, none⟩ (.slice v1 f1 e1)).setCell ⟨b7, 2, none⟩ (.slice v2 f2 e2) = w' := ⟨_, rfl⟩
            unfold put3 at H6
            rw [hw6] at H6
            rw [hw6]
            clear hw6 H5 z0 z1 z2 z3 z4 z5 z6
            have hcn := H6.out.c1
            go_wp2_with fail
            go_roundw
            case rel => exact ⟨m + 1, by omega, by go_num, rfl, H6⟩
            case measure => simp [intOf]; omega
        · obtain ⟨k, rfl⟩ : ∃ k, k = K := ⟨K, rfl⟩
          obtain rfl : m = k := by omega
          obtain ⟨k, rfl⟩ : ∃ k, k = m := ⟨m, rfl⟩
          obtain ⟨u1, g1, s1, u2, g2, s2, hC6, hR6⟩ := HT.out.x6
          obtain ⟨u3, g3, s3, u4, g4, s4, hC7, hR7⟩ := HT.out.x7
          obtain ⟨sg6, hs6⟩ : ∃ b, decide ((dcS n B k).num < 0) = b := ⟨_, rfl⟩
          obtain ⟨sg7, hs7⟩ : ∃ b, decide ((dcA n B k).num < 0) = b := ⟨_, rfl⟩
          rw [hs6] at hC6
          rw [hs7] at hC7
          have H6c := Lib.hid hC6
          have H7c := Lib.hid hC7
          have HR6 := Lib.hid hR6
          have HR7 := Lib.hid hR7
          have HS6 := Lib.hid hs6
          have HS7 := Lib.hid hs7
          have HV0 := HV
          have hL1 : 1 ≤ L := by have := HLL.out; omega
          have hL32 : L ≤ 32 := by have := HLL.out; omega
          have hGb : 2 ^ L ≤ 4294967296 := Nat.pow_le_pow_right (n := 2) (by omega) hL32
          have hG2 : 2 ^ 1 ≤ 2 ^ L := Nat.pow_le_pow_right (n := 2) (by omega) hL1
          have hqb := HGG.out.q
          have hpb := HGG.out.p
          have htb := HGG.out.t
          rw [HLL.out] at hqb hpb htb
          have HQB := Lib.hid hqb
          have HPB := Lib.hid hpb
          have HTB := Lib.hid htb
          have HQ := Lib.hid (fun w => quotient_rr (2 ^ L) (2 ^ L - 1) w (by omega) (by omega) (by omega))
          obtain ⟨G, hG⟩ : ∃ G, 2 ^ L = G := ⟨_, rfl⟩
          obtain ⟨G1, hG1⟩ : ∃ G1, G - 1 = G1 := ⟨_, rfl⟩
          have hpow : (2 : Int) ^ L = (G : Int) := by rw [← hG]; simp
          rw [hG] at hGb hG2
          have hpw : IntKind.i64.wrap (G : Int) = (G : Int) := IntWalk.i64_in _ (by omega)
          have hps : IntKind.i64.wrap ((G : Int) - 1) = (G1 : Int) := by rw [IntWalk.i64_in _ (by omega)]; omega
          have hL0 : (0:Int) ≤ (L:Int) := by omega
          have hkk : ¬ ((k:Nat):Int) < ((k:Nat):Int) := by omega
          have HQ2 : Hid (∀ w, Calls Try.prog 40 #[.int .i64 (G : Nat), .int .i64 (G1 : Nat)] w (RetR w (mkRat ((2 ^ L : Nat) : Int) (2 ^ L - 1)))) := Lib.hid (fun w => by have := HQ.out w; rw [hG, hG1] at this; rw [hG, hG1]; exact this)
          clear HQ hG hG1 hC6 hC7 hR6 hR7 hs6 hs7 hqb hpb htb
          have HQ := HQ2
          clear HQ2
          go_upto_region 14 with fail
          have HSA : Hid (∀ w', Below wr.heap.size wr w' → w'.cell? ⟨b6, 0, none⟩ = some (.bool sg6) ∧ w'.cell? ⟨b6, 1, none⟩ = some (.slice u1 s1 g1) ∧ w'.cell? ⟨b6, 2, none⟩ = some (.slice u2 s2 g2) ∧ w'.cell? ⟨b7, 0, none⟩ = some (.bool sg7) ∧ w'.cell? ⟨b7, 1, none⟩ = some (.slice u3 s3 g3) ∧ w'.cell? ⟨b7, 2, none⟩ = some (.slice u4 s4 g4)) := Lib.hid (fun w' hb => ⟨(H6c.out.all hb).c0, (H6c.out.all hb).c1, (H6c.out.all hb).c2, (H7c.out.all hb).c0, (H7c.out.all hb).c1, (H7c.out.all hb).c2⟩)
          have HB := Lib.hid ((Below.refl wr.heap.size wr).drew)
          have hS := HSA.out _ HB.out
          refine wp_region_any (by kernel_rfl) (any_of_K (k := 13) (S := fun w' => w'.cell? ⟨b6, 0, none⟩ = some (.bool sg6) ∧ w'.cell? ⟨b6, 1, none⟩ = some (.slice u1 s1 g1) ∧ w'.cell? ⟨b6, 2, none⟩ = some (.slice u2 s2 g2) ∧ w'.cell? ⟨b7, 0, none⟩ = some (.bool sg7) ∧ w'.cell? ⟨b7, 1, none⟩ = some (.slice u3 s3 g3) ∧ w'.cell? ⟨b7, 2, none⟩ = some (.slice u4 s4 g4)) (T := fun _ => True) _ _ _ _ ?_)
          change anyK _ _ _ _ _ _ _ _ _ _ (World.drew wr)
          obtain ⟨v, hv⟩ : ∃ w', wr.drew = w' := ⟨_, rfl⟩
          rw [hv] at HB hS ⊢
          clear hv
          refine anyT_take (i := 2) (n := 14) (v := .int .i64 (L : Nat)) rfl (by decide) (by kernel_rfl) (by kernel_rfl) (by kernel_rfl) (fun _ _ _ h => h) (Or.inl ⟨by kernel_rfl, fun w' hw => by go_simp⟩) hS trivial ?_
          refine anyT_take (i := 4) (n := 13) (v := .int .i64 (L : Nat)) rfl (by decide) (by kernel_rfl) (by kernel_rfl) (by kernel_rfl) (fun _ _ _ h => h) (Or.inl ⟨by kernel_rfl, fun w' hw => by go_simp⟩) hS trivial ?_
          refine anyT_take (i := 3) (n := 12) (v := .int .i64 (G : Nat)) rfl (by decide) (by kernel_rfl) (by kernel_rfl) (by kernel_rfl) (fun _ _ _ h => h) (Or.inl ⟨by kernel_rfl, fun w' hw => by go_simp⟩) hS trivial ?_
          refine anyT_take (i := 5) (n := 11) (v := .int .i64 (G : Nat)) rfl (by decide) (by kernel_rfl) (by kernel_rfl) (by kernel_rfl) (fun _ _ _ h => h) (Or.inl ⟨by kernel_rfl, fun w' hw => by go_simp⟩) hS trivial ?_
          refine anyT_take (i := 6) (n := 10) (v := .int .i64 (G1 : Nat)) rfl (by decide) (by kernel_rfl) (by kernel_rfl) (by kernel_rfl) (fun _ _ _ h => h) (Or.inl ⟨by kernel_rfl, fun w' hw => by go_simp⟩) hS trivial ?_
          refine anyK_take (i := 0) (n := 9) (v := .agg #[.bool sg6, .slice u1 s1 g1, .slice u2 s2 g2]) rfl rfl (by kernel_rfl) (by kernel_rfl) (by kernel_rfl) (by kernel_rfl) (by kernel_rfl) (fun _ _ _ h => h) (Or.inl ⟨by kernel_rfl, fun w' hw => by (obtain ⟨z0, z1, z2, z3, z4, z5⟩ := hw; go_simp)⟩) hS trivial ?_
          refine anyK_take (i := 1) (n := 8) (v := .agg #[.bool sg7, .slice u3 s3 g3, .slice u4 s4 g4]) rfl rfl (by kernel_rfl) (by kernel_rfl) (by kernel_rfl) (by kernel_rfl) (by kernel_rfl) (fun _ _ _ h => h) (Or.inl ⟨by kernel_rfl, fun w' hw => by (obtain ⟨z0, z1, z2, z3, z4, z5⟩ := hw; go_simp)⟩) hS trivial ?_
          refine anyK_all (n := 7) (rs := [7]) (by kernel_rfl) (by simp) (fun i hi => ?_)
          simp only [List.mem_cons, List.not_mem_nil, or_false] at hi
          obtain rfl := hi
          refine wpOp_step rfl (fun K' hK => ?_)
          go_simp
          refine (HQ.out _).mono ?_
          rintro e v ⟨sga, i1, j1, m1, i2, j2, m2, rfl, hv, hb, hsga⟩
          have HBn := Lib.hid (bthen HB.out hb)
          clear HB
          have HB := HBn
          clear HBn
          replace hS := HSA.out _ HB.out
          have HV := Lib.hid hv
          clear hv
          have HTM := Lib.hid (times_rr (dcA n B k) (mkRat ((2 ^ L : Nat) : Int) (2 ^ L - 1)) 120 120 u3 u4 i1 i2 g3 g4 j1 j2 s3 s4 m1 m2 v (HR7.out.below HB.out) HV.out (HGG.out.a k (Nat.le_refl _)) HQB.out (by omega) (by omega))
          rw [HS7.out, ← hsga] at HTM
          clear hsga
          refine hK _ _ ⟨fun _ _ => hS, trivial, ?_⟩
          clear hK hb
          refine anyK_all (n := 6) (rs := [8]) (by kernel_rfl) (by simp) (fun i hi => ?_)
          simp only [List.mem_cons, List.not_mem_nil, or_false] at hi
          obtain rfl := hi
          refine wpOp_step rfl (fun K' hK => ?_)
          go_simp
          refine (HTM.out).mono ?_
          rintro e v ⟨sgb, i3, j3, m3, i4, j4, m4, rfl, hv, hb, hsgb⟩
          have HBn := Lib.hid (bthen HB.out hb)
          clear HB
          have HB := HBn
          clear HBn
          replace hS := HSA.out _ HB.out
          have HVb := Lib.hid hv
          clear hv
          have HPL := Lib.hid (plus_rr (dcS n B k) (dcA n B k * mkRat ((2 ^ L : Nat) : Int) (2 ^ L - 1)) 120 120 u1 u2 i3 i4 g1 g2 j3 j4 s1 s2 m3 m4 v (HR6.out.below HB.out) HVb.out (HGG.out.s k (Nat.le_refl _)) HPB.out (by omega) (by omega))
          rw [HS6.out, ← hsgb] at HPL
          clear hsgb
          refine hK _ _ ⟨fun _ _ => hS, trivial, ?_⟩
          clear hK hb
          refine anyK_all (n := 5) (rs := [9]) (by kernel_rfl) (by simp) (fun i hi => ?_)
          simp only [List.mem_cons, List.not_mem_nil, or_false] at hi
          obtain rfl := hi
          refine wpOp_step rfl (fun K' hK => ?_)
          go_simp
          refine (HPL.out).mono ?_
          rintro e v ⟨sgc, i5, j5, m5, i6, j6, m6, rfl, hv, hb, hsgc⟩
          have HBn := Lib.hid (bthen HB.out hb)
          clear HB
          have HB := HBn
          clear HBn
          replace hS := HSA.out _ HB.out
          have HVc := Lib.hid hv
          clear hv
          have HFR := Lib.hid (fraction_rr (dcS n B k + dcA n B k * mkRat ((2 ^ L : Nat) : Int) (2 ^ L - 1)) 120 i5 i6 j5 j6 m5 m6 v HVc.out HTB.out (by omega))
          rw [HFO.out, ← hsgc] at HFR
          clear hsgc
          refine hK _ _ ⟨fun _ _ => hS, trivial, ?_⟩
          clear hK hb
          refine anyK_all (n := 4) (rs := [10]) (by kernel_rfl) (by simp) (fun i hi => ?_)
          simp only [List.mem_cons, List.not_mem_nil, or_false] at hi
          obtain rfl := hi
          refine wpOp_step rfl (fun K' hK => ?_)
          go_simp
          refine (HFR.out).mono ?_
          rintro e v ⟨rfl, hb⟩
          have HBn := Lib.hid (bthen HB.out hb)
          clear HB
          have HB := HBn
          clear HBn
          replace hS := HSA.out _ HB.out

          refine hK _ _ ⟨fun _ _ => hS, trivial, ?_⟩
          clear hK hb
          refine anyT_take (i := 11) (n := 3) (v := .agg #[.int .i64 p, .int .i64 q]) rfl (by decide) (by kernel_rfl) (by kernel_rfl) (by kernel_rfl) (fun _ _ _ h => h) (Or.inl ⟨by kernel_rfl, fun w' hw => by go_simp⟩) hS trivial ?_
          refine anyT_take (i := 12) (n := 2) (v := .bool b') rfl (by decide) (by kernel_rfl) (by kernel_rfl) (by kernel_rfl) (fun _ _ _ h => h) (Or.inl ⟨by kernel_rfl, fun w' hw => by go_simp⟩) hS trivial ?_
          have HD := Lib.hid (HT.out.all HB.out)
          obtain ⟨y0, y1, y2, y3, y4⟩ := HD.out.c2
          refine anyK_all (n := 1) (rs := [13]) (by kernel_rfl) (by simp) (fun i hi => ?_)
          simp only [List.mem_cons, List.not_mem_nil, or_false] at hi
          obtain rfl := hi
          refine wpOp_step rfl (fun K' hK => ?_)
          go_simp
          refine hK _ _ ⟨fun h => absurd rfl h, trivial, ?_⟩
          clear hK
          refine anyK_all (n := 0) (rs := [14]) (by kernel_rfl) (by simp) (fun i hi => ?_)
          simp only [List.mem_cons, List.not_mem_nil, or_false] at hi
          obtain rfl := hi
          refine wpOp_step rfl (fun K' hK => ?_)
          go_simp
          refine hK _ _ ⟨(fun _ h => nomatch (show true = false from h)), trivial, ?_⟩
          clear hK
          refine ⟨by kernel_rfl, ?_⟩
          go_wp2_with fail
          refine bodyPost_ret (v := .tuple #[.agg #[.int .i64 p, .int .i64 q], .bool b']) (by simp [results, Try.results16, go_sem, *]) rfl ⟨by rw [HV0.out], ?_⟩
          exact below_2c HD.out.bel (by omega) _ _
end Go.Proofs.Ytpineiocjaajnaa

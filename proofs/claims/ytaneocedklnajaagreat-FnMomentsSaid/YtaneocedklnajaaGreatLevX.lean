import Derived.Test.YtaneocedklnajaaGreatPMeanX
/- The reference's order of two fractions that are not negative. No condition but bounds. -/
namespace Go.Proofs.YtaneocedklnajaaGreat
open Go.RowKit
set_option linter.unusedVariables false

set_option maxRecDepth 20000 in
set_option maxHeartbeats 800000 in
theorem l01FCmp_nn (p b q c : Nat) (w : World) (hp : p ≤ 1000000000000000000) (hb : b ≤ 1000000000000000000) (hq : q ≤ 1000000000000000000) (hc : c ≤ 1000000000000000000) :
    Calls Tryz.prog 92 #[.agg #[.int .i64 (p : Nat), .int .i64 (b : Nat)], .agg #[.int .i64 (q : Nat), .int .i64 (c : Nat)]] w fun e w' => e = .returned (.int .i64 (B30.cmpN (p * c) (q * b))) ∧ Below w.heap.size w w' := by
  have hA : Below w.heap.size w ((w.alloc (.cells #[.int .i64 (p : Nat), .int .i64 (b : Nat)] 40)).alloc (.cells #[.int .i64 (q : Nat), .int .i64 (c : Nat)] 40)) := ((Below.refl _ w).alloc (Nat.le_refl _) _).alloc (by simp) _
  have hc0 : C2 ((w.alloc (.cells #[.int .i64 (p : Nat), .int .i64 (b : Nat)] 40)).alloc (.cells #[.int .i64 (q : Nat), .int .i64 (c : Nat)] 40)) w.heap.size (.int .i64 (p : Nat)) (.int .i64 (b : Nat)) := (C2.new w _ _ _).all ((Below.refl _ _).alloc (Nat.le_refl _) _)
  have hc1 : C2 ((w.alloc (.cells #[.int .i64 (p : Nat), .int .i64 (b : Nat)] 40)).alloc (.cells #[.int .i64 (q : Nat), .int .i64 (c : Nat)] 40)) (w.heap.size + 1) (.int .i64 (q : Nat)) (.int .i64 (c : Nat)) := by
    have := C2.new (w.alloc (.cells #[.int .i64 (p : Nat), .int .i64 (b : Nat)] 40)) 40 (.int .i64 (q : Nat)) (.int .i64 (c : Nat))
    rw [alloc_size] at this; exact this
  have H0 := Lib.hid (And.intro hc0 (And.intro hc1 hA))
  have HM1 := Lib.hid (fun (w : World) => l00Max_abs (p : Int) w (by omega) (by omega))
  have HM2 := Lib.hid (fun (w : World) => l00Max_abs (q : Int) w (by omega) (by omega))
  have HT1 := Lib.hid (fun w => l01Times_any p c w (by omega) (by omega))
  have HT2 := Lib.hid (fun w => l01Times_any q b w (by omega) (by omega))
  have HL1 := Lib.hid (fun w => l01Less_any (p * c) (q * b) w)
  have HL2 := Lib.hid (fun w => l01Less_any (q * b) (p * c) w)
  have hp0 : ¬ (p : Int) < 0 := by omega
  have hq0 : ¬ (q : Int) < 0 := by omega
  have hwp : IntKind.i64.wrap (-(p : Int)) = -(p : Int) := IntWalk.i64_in _ (by omega)
  have hwq : IntKind.i64.wrap (-(q : Int)) = -(q : Int) := IntWalk.i64_in _ (by omega)
  clear hA hc0 hc1
  go_enter Tryz.func92, Tryz.ntmps92
  go_wp2_with fail
  obtain ⟨wA, hwA⟩ : ∃ w', ((w.alloc (.cells #[.int .i64 (p : Nat), .int .i64 (b : Nat)] 40)).alloc (.cells #[.int .i64 (q : Nat), .int .i64 (c : Nat)] 40)) = w' := ⟨_, rfl⟩
  rw [hwA] at H0 ⊢
  clear hwA
  obtain ⟨x0, x1, x2, x3, x4⟩ := H0.out.1
  obtain ⟨y0, y1, y2, y3, y4⟩ := H0.out.2.1
  go_wp2_with fail
  go_cut [5] (fun v5 wc => ∃ b5 : Nat, v5 = .pointer (some ⟨b5, 0, none⟩) ∧ Hid (C2 wc b5 (.int .u64 ((p * c / 18446744073709551616 : Nat) : Int)) (.int .u64 ((p * c % 18446744073709551616 : Nat) : Int)) ∧ Below wA.heap.size wA wc ∧ wA.heap.size ≤ b5))
  case first =>
    have HSA : Hid (∀ w', Below wA.heap.size wA w' → w'.cell? ⟨w.heap.size, 0, none⟩ = some (.int .i64 (p : Nat)) ∧ w'.cell? ⟨(w.heap.size + 1), 1, none⟩ = some (.int .i64 (c : Nat))) := Lib.hid (fun w' hb => ⟨(H0.out.1.all hb).c0, (H0.out.2.1.all hb).c1⟩)
    have HB0 := Lib.hid ((Below.refl wA.heap.size wA).drew)
    have hS : wA.drew.cell? ⟨w.heap.size, 0, none⟩ = some (.int .i64 (p : Nat)) ∧ wA.drew.cell? ⟨(w.heap.size + 1), 1, none⟩ = some (.int .i64 (c : Nat)) := HSA.out _ HB0.out
    refine wp_region_any (by kernel_rfl) (any_of_K (k := 10) (S := fun w' => w'.cell? ⟨w.heap.size, 0, none⟩ = some (.int .i64 (p : Nat)) ∧ w'.cell? ⟨(w.heap.size + 1), 1, none⟩ = some (.int .i64 (c : Nat))) (T := fun _ => True) _ _ _ _ ?_)
    change anyK _ _ _ _ _ _ _ _ _ _ (World.drew wA)
    obtain ⟨wD, hwD⟩ : ∃ w', wA.drew = w' := ⟨_, rfl⟩
    rw [hwD] at HB0 hS ⊢
    clear hwD
    refine anyT_take (i := 0) (n := 10) (v := .pointer (some ⟨w.heap.size, 0, none⟩)) rfl (by decide) (by kernel_rfl) (by kernel_rfl) (by kernel_rfl) (fun _ _ _ h => h) (Or.inl ⟨by kernel_rfl, fun w' hw => by go_simp⟩) hS trivial ?_
    refine anyK_take (i := 1) (n := 9) (v := .int .i64 (p : Nat)) rfl rfl (by kernel_rfl) (by kernel_rfl) (by kernel_rfl) (by kernel_rfl) (by kernel_rfl) (fun _ _ _ h => h) (Or.inl ⟨by kernel_rfl, fun w' hw => by (obtain ⟨z0, z1⟩ := hw; go_simp)⟩) hS trivial ?_
    refine anyT_take (i := 2) (n := 8) (v := .pointer (some ⟨w.heap.size, 0, none⟩)) rfl (by decide) (by kernel_rfl) (by kernel_rfl) (by kernel_rfl) (fun _ _ _ h => h) (Or.inl ⟨by kernel_rfl, fun w' hw => by go_simp⟩) hS trivial ?_
    refine anyK_take (i := 3) (n := 7) (v := .int .i64 (p : Nat)) rfl rfl (by kernel_rfl) (by kernel_rfl) (by kernel_rfl) (by kernel_rfl) (by kernel_rfl) (fun _ _ _ h => h) (Or.inl ⟨by kernel_rfl, fun w' hw => by (obtain ⟨z0, z1⟩ := hw; go_simp)⟩) hS trivial ?_
    refine anyT_take (i := 4) (n := 6) (v := .int .i64 (-((p : Nat) : Int))) rfl (by decide) (by kernel_rfl) (by kernel_rfl) (by kernel_rfl) (fun _ _ _ h => h) (Or.inl ⟨by kernel_rfl, fun w' hw => by go_simp⟩) hS trivial ?_
    refine anyT_take (i := 6) (n := 5) (v := .pointer (some ⟨(w.heap.size + 1), 1, none⟩)) rfl (by decide) (by kernel_rfl) (by kernel_rfl) (by kernel_rfl) (fun _ _ _ h => h) (Or.inl ⟨by kernel_rfl, fun w' hw => by go_simp⟩) hS trivial ?_
    refine anyK_take (i := 7) (n := 4) (v := .int .i64 (c : Nat)) rfl rfl (by kernel_rfl) (by kernel_rfl) (by kernel_rfl) (by kernel_rfl) (by kernel_rfl) (fun _ _ _ h => h) (Or.inl ⟨by kernel_rfl, fun w' hw => by (obtain ⟨z0, z1⟩ := hw; go_simp)⟩) hS trivial ?_
    refine anyK_all (n := 3) (rs := [5, 9]) (by kernel_rfl) (by simp) (fun i hi => ?_)
    simp only [List.mem_cons, List.not_mem_nil, or_false] at hi
    rcases hi with rfl | rfl
    · refine wpOp_step rfl (fun K' hK => ?_)
      go_simp
      refine (HM1.out _).mono ?_
      rintro e w' ⟨rfl, rfl⟩
      refine hK _ _ ⟨fun _ _ => hS, trivial, ?_⟩
      clear hK
      refine anyK_all (n := 2) (rs := [8, 9]) (by kernel_rfl) (by simp) (fun i hi => ?_)
      simp only [List.mem_cons, List.not_mem_nil, or_false] at hi
      rcases hi with rfl | rfl
      · refine wpOp_step rfl (fun K' hK => ?_)
        go_simp
        refine (HT1.out _).mono ?_
        rintro e v2 ⟨rfl, hb⟩
        have HB2 := Lib.hid (bthen HB0.out hb)
        have hS2 := HSA.out _ HB2.out
        refine hK _ _ ⟨fun _ _ => hS2, trivial, ?_⟩
        clear hK hb
        refine anyK_all (n := 1) (rs := [9]) (by kernel_rfl) (by simp) (fun i hi => ?_)
        simp only [List.mem_cons, List.not_mem_nil, or_false] at hi
        obtain rfl := hi
        refine wpOp_step rfl (fun K' hK => ?_)
        go_simp
        have hb : Below v2.heap.size v2 (v2.alloc (.cells #[.int .u64 0, .int .u64 0] 126)) := (Below.refl _ _).alloc (Nat.le_refl _) _
        have HB3 := Lib.hid (bthen HB2.out hb)
        have HX3 := Lib.hid (And.intro (C2.new v2 126 (.int .u64 0) (.int .u64 0)) HB2.out.size)
        have hS3 := HSA.out _ HB3.out
        refine hK _ _ ⟨fun _ _ => hS3, trivial, ?_⟩
        clear hK hb
        obtain ⟨v3, hw⟩ : ∃ w', v2.alloc (.cells #[.int .u64 0, .int .u64 0] 126) = w' := ⟨_, rfl⟩
        obtain ⟨b3, hbb⟩ : ∃ b, v2.heap.size = b := ⟨_, rfl⟩
        rw [hw] at HB3 hS3
        rw [hw, hbb] at HX3
        rw [hw, hbb]
        clear hw hbb
        obtain ⟨y0, y1, y2, y3, y4⟩ := HX3.out.1
        refine anyK_all (n := 0) (rs := [10]) (by kernel_rfl) (by simp) (fun i hi => ?_)
        simp only [List.mem_cons, List.not_mem_nil, or_false] at hi
        obtain rfl := hi
        refine wpOp_step rfl (fun K' hK => ?_)
        go_simp
        refine hK _ _ ⟨fun h => absurd rfl h, trivial, ?_⟩
        clear hK
        refine ⟨by kernel_rfl, ?_⟩
        go_wp2_with fail
        go_meet
        exact ⟨_, rfl, Lib.hid ⟨(HX3.out.1.set0 _).set1 _, below_two HB3.out HX3.out.2 _ _, HX3.out.2⟩⟩
      · refine wpOp_step rfl (fun K' hK => ?_)
        go_simp
        have hb : Below wD.heap.size wD (wD.alloc (.cells #[.int .u64 0, .int .u64 0] 126)) := (Below.refl _ _).alloc (Nat.le_refl _) _
        have HB4 := Lib.hid (bthen HB0.out hb)
        have HX4 := Lib.hid (And.intro (C2.new wD 126 (.int .u64 0) (.int .u64 0)) HB0.out.size)
        have hS4 := HSA.out _ HB4.out
        refine hK _ _ ⟨fun _ _ => hS4, trivial, ?_⟩
        clear hK hb
        obtain ⟨v4, hw⟩ : ∃ w', wD.alloc (.cells #[.int .u64 0, .int .u64 0] 126) = w' := ⟨_, rfl⟩
        obtain ⟨b4, hbb⟩ : ∃ b, wD.heap.size = b := ⟨_, rfl⟩
        rw [hw] at HB4 hS4
        rw [hw, hbb] at HX4
        rw [hw, hbb]
        clear hw hbb
        refine anyK_all (n := 1) (rs := [8]) (by kernel_rfl) (by simp) (fun i hi => ?_)
        simp only [List.mem_cons, List.not_mem_nil, or_false] at hi
        obtain rfl := hi
        refine wpOp_step rfl (fun K' hK => ?_)
        go_simp
        refine (HT1.out _).mono ?_
        rintro e v5 ⟨rfl, hb⟩
        have HB5 := Lib.hid (bthen HB4.out hb)
        have HX5 := Lib.hid (And.intro (HX4.out.1.all hb) HX4.out.2)
        have hS5 := HSA.out _ HB5.out
        refine hK _ _ ⟨fun _ _ => hS5, trivial, ?_⟩
        clear hK hb
        obtain ⟨y0, y1, y2, y3, y4⟩ := HX5.out.1
        refine anyK_all (n := 0) (rs := [10]) (by kernel_rfl) (by simp) (fun i hi => ?_)
        simp only [List.mem_cons, List.not_mem_nil, or_false] at hi
        obtain rfl := hi
        refine wpOp_step rfl (fun K' hK => ?_)
        go_simp
        refine hK _ _ ⟨fun h => absurd rfl h, trivial, ?_⟩
        clear hK
        refine ⟨by kernel_rfl, ?_⟩
        go_wp2_with fail
        go_meet
        exact ⟨_, rfl, Lib.hid ⟨(HX5.out.1.set0 _).set1 _, below_two HB5.out HX5.out.2 _ _, HX5.out.2⟩⟩
    · refine wpOp_step rfl (fun K' hK => ?_)
      go_simp
      have hb : Below wD.heap.size wD (wD.alloc (.cells #[.int .u64 0, .int .u64 0] 126)) := (Below.refl _ _).alloc (Nat.le_refl _) _
      have HB6 := Lib.hid (bthen HB0.out hb)
      have HX6 := Lib.hid (And.intro (C2.new wD 126 (.int .u64 0) (.int .u64 0)) HB0.out.size)
      have hS6 := HSA.out _ HB6.out
      refine hK _ _ ⟨fun _ _ => hS6, trivial, ?_⟩
      clear hK hb
      obtain ⟨v6, hw⟩ : ∃ w', wD.alloc (.cells #[.int .u64 0, .int .u64 0] 126) = w' := ⟨_, rfl⟩
      obtain ⟨b6, hbb⟩ : ∃ b, wD.heap.size = b := ⟨_, rfl⟩
      rw [hw] at HB6 hS6
      rw [hw, hbb] at HX6
      rw [hw, hbb]
      clear hw hbb
      refine anyK_all (n := 2) (rs := [5]) (by kernel_rfl) (by simp) (fun i hi => ?_)
      simp only [List.mem_cons, List.not_mem_nil, or_false] at hi
      obtain rfl := hi
      refine wpOp_step rfl (fun K' hK => ?_)
      go_simp
      refine (HM1.out _).mono ?_
      rintro e w' ⟨rfl, rfl⟩
      refine hK _ _ ⟨fun _ _ => hS6, trivial, ?_⟩
      clear hK
      refine anyK_all (n := 1) (rs := [8]) (by kernel_rfl) (by simp) (fun i hi => ?_)
      simp only [List.mem_cons, List.not_mem_nil, or_false] at hi
      obtain rfl := hi
      refine wpOp_step rfl (fun K' hK => ?_)
      go_simp
      refine (HT1.out _).mono ?_
      rintro e v8 ⟨rfl, hb⟩
      have HB8 := Lib.hid (bthen HB6.out hb)
      have HX8 := Lib.hid (And.intro (HX6.out.1.all hb) HX6.out.2)
      have hS8 := HSA.out _ HB8.out
      refine hK _ _ ⟨fun _ _ => hS8, trivial, ?_⟩
      clear hK hb
      obtain ⟨y0, y1, y2, y3, y4⟩ := HX8.out.1
      refine anyK_all (n := 0) (rs := [10]) (by kernel_rfl) (by simp) (fun i hi => ?_)
      simp only [List.mem_cons, List.not_mem_nil, or_false] at hi
      obtain rfl := hi
      refine wpOp_step rfl (fun K' hK => ?_)
      go_simp
      refine hK _ _ ⟨fun h => absurd rfl h, trivial, ?_⟩
      clear hK
      refine ⟨by kernel_rfl, ?_⟩
      go_wp2_with fail
      go_meet
      exact ⟨_, rfl, Lib.hid ⟨(HX8.out.1.set0 _).set1 _, below_two HB8.out HX8.out.2 _ _, HX8.out.2⟩⟩
  case rest =>
    obtain ⟨b5, rfl, HC⟩ := hcut
    have H1 := Lib.hid (And.intro (H0.out.1.all HC.out.2.1) (And.intro (H0.out.2.1.all HC.out.2.1) (bthen H0.out.2.2 HC.out.2.1)))
    have HX5 := Lib.hid HC.out.1
    clear HC H0 x0 x1 x2 x3 x4 y0 y1 y2 y3 y4
    obtain ⟨x0, x1, x2, x3, x4⟩ := H1.out.1
    obtain ⟨y0, y1, y2, y3, y4⟩ := H1.out.2.1
    go_wp2_with fail
    go_cut [6] (fun v6 wd => ∃ b6 : Nat, v6 = .pointer (some ⟨b6, 0, none⟩) ∧ Hid (C2 wd b6 (.int .u64 ((q * b / 18446744073709551616 : Nat) : Int)) (.int .u64 ((q * b % 18446744073709551616 : Nat) : Int)) ∧ Below wc.heap.size wc wd ∧ wc.heap.size ≤ b6))
    case first =>
      have HSA : Hid (∀ w', Below wc.heap.size wc w' → w'.cell? ⟨(w.heap.size + 1), 0, none⟩ = some (.int .i64 (q : Nat)) ∧ w'.cell? ⟨w.heap.size, 1, none⟩ = some (.int .i64 (b : Nat))) := Lib.hid (fun w' hb => ⟨(H1.out.2.1.all hb).c0, (H1.out.1.all hb).c1⟩)
      have HB0 := Lib.hid ((Below.refl wc.heap.size wc).drew)
      have hS : wc.drew.cell? ⟨(w.heap.size + 1), 0, none⟩ = some (.int .i64 (q : Nat)) ∧ wc.drew.cell? ⟨w.heap.size, 1, none⟩ = some (.int .i64 (b : Nat)) := HSA.out _ HB0.out
      refine wp_region_any (by kernel_rfl) (any_of_K (k := 10) (S := fun w' => w'.cell? ⟨(w.heap.size + 1), 0, none⟩ = some (.int .i64 (q : Nat)) ∧ w'.cell? ⟨w.heap.size, 1, none⟩ = some (.int .i64 (b : Nat))) (T := fun _ => True) _ _ _ _ ?_)
      change anyK _ _ _ _ _ _ _ _ _ _ (World.drew wc)
      obtain ⟨wD, hwD⟩ : ∃ w', wc.drew = w' := ⟨_, rfl⟩
      rw [hwD] at HB0 hS ⊢
      clear hwD
      refine anyT_take (i := 0) (n := 10) (v := .pointer (some ⟨(w.heap.size + 1), 0, none⟩)) rfl (by decide) (by kernel_rfl) (by kernel_rfl) (by kernel_rfl) (fun _ _ _ h => h) (Or.inl ⟨by kernel_rfl, fun w' hw => by go_simp⟩) hS trivial ?_
      refine anyK_take (i := 1) (n := 9) (v := .int .i64 (q : Nat)) rfl rfl (by kernel_rfl) (by kernel_rfl) (by kernel_rfl) (by kernel_rfl) (by kernel_rfl) (fun _ _ _ h => h) (Or.inl ⟨by kernel_rfl, fun w' hw => by (obtain ⟨z0, z1⟩ := hw; go_simp)⟩) hS trivial ?_
      refine anyT_take (i := 2) (n := 8) (v := .pointer (some ⟨(w.heap.size + 1), 0, none⟩)) rfl (by decide) (by kernel_rfl) (by kernel_rfl) (by kernel_rfl) (fun _ _ _ h => h) (Or.inl ⟨by kernel_rfl, fun w' hw => by go_simp⟩) hS trivial ?_
      refine anyK_take (i := 3) (n := 7) (v := .int .i64 (q : Nat)) rfl rfl (by kernel_rfl) (by kernel_rfl) (by kernel_rfl) (by kernel_rfl) (by kernel_rfl) (fun _ _ _ h => h) (Or.inl ⟨by kernel_rfl, fun w' hw => by (obtain ⟨z0, z1⟩ := hw; go_simp)⟩) hS trivial ?_
      refine anyT_take (i := 4) (n := 6) (v := .int .i64 (-((q : Nat) : Int))) rfl (by decide) (by kernel_rfl) (by kernel_rfl) (by kernel_rfl) (fun _ _ _ h => h) (Or.inl ⟨by kernel_rfl, fun w' hw => by go_simp⟩) hS trivial ?_
      refine anyT_take (i := 6) (n := 5) (v := .pointer (some ⟨w.heap.size, 1, none⟩)) rfl (by decide) (by kernel_rfl) (by kernel_rfl) (by kernel_rfl) (fun _ _ _ h => h) (Or.inl ⟨by kernel_rfl, fun w' hw => by go_simp⟩) hS trivial ?_
      refine anyK_take (i := 7) (n := 4) (v := .int .i64 (b : Nat)) rfl rfl (by kernel_rfl) (by kernel_rfl) (by kernel_rfl) (by kernel_rfl) (by kernel_rfl) (fun _ _ _ h => h) (Or.inl ⟨by kernel_rfl, fun w' hw => by (obtain ⟨z0, z1⟩ := hw; go_simp)⟩) hS trivial ?_
      refine anyK_all (n := 3) (rs := [5, 9]) (by kernel_rfl) (by simp) (fun i hi => ?_)
      simp only [List.mem_cons, List.not_mem_nil, or_false] at hi
      rcases hi with rfl | rfl
      · refine wpOp_step rfl (fun K' hK => ?_)
        go_simp
        refine (HM2.out _).mono ?_
        rintro e w' ⟨rfl, rfl⟩
        refine hK _ _ ⟨fun _ _ => hS, trivial, ?_⟩
        clear hK
        refine anyK_all (n := 2) (rs := [8, 9]) (by kernel_rfl) (by simp) (fun i hi => ?_)
        simp only [List.mem_cons, List.not_mem_nil, or_false] at hi
        rcases hi with rfl | rfl
        · refine wpOp_step rfl (fun K' hK => ?_)
          go_simp
          refine (HT2.out _).mono ?_
          rintro e v10 ⟨rfl, hb⟩
          have HB10 := Lib.hid (bthen HB0.out hb)
          have hS10 := HSA.out _ HB10.out
          refine hK _ _ ⟨fun _ _ => hS10, trivial, ?_⟩
          clear hK hb
          refine anyK_all (n := 1) (rs := [9]) (by kernel_rfl) (by simp) (fun i hi => ?_)
          simp only [List.mem_cons, List.not_mem_nil, or_false] at hi
          obtain rfl := hi
          refine wpOp_step rfl (fun K' hK => ?_)
          go_simp
          have hb : Below v10.heap.size v10 (v10.alloc (.cells #[.int .u64 0, .int .u64 0] 126)) := (Below.refl _ _).alloc (Nat.le_refl _) _
          have HB11 := Lib.hid (bthen HB10.out hb)
          have HX11 := Lib.hid (And.intro (C2.new v10 126 (.int .u64 0) (.int .u64 0)) HB10.out.size)
          have hS11 := HSA.out _ HB11.out
          refine hK _ _ ⟨fun _ _ => hS11, trivial, ?_⟩
          clear hK hb
          obtain ⟨v11, hw⟩ : ∃ w', v10.alloc (.cells #[.int .u64 0, .int .u64 0] 126) = w' := ⟨_, rfl⟩
          obtain ⟨b11, hbb⟩ : ∃ b, v10.heap.size = b := ⟨_, rfl⟩
          rw [hw] at HB11 hS11
          rw [hw, hbb] at HX11
          rw [hw, hbb]
          clear hw hbb
          obtain ⟨y0, y1, y2, y3, y4⟩ := HX11.out.1
          refine anyK_all (n := 0) (rs := [10]) (by kernel_rfl) (by simp) (fun i hi => ?_)
          simp only [List.mem_cons, List.not_mem_nil, or_false] at hi
          obtain rfl := hi
          refine wpOp_step rfl (fun K' hK => ?_)
          go_simp
          refine hK _ _ ⟨fun h => absurd rfl h, trivial, ?_⟩
          clear hK
          refine ⟨by kernel_rfl, ?_⟩
          go_wp2_with fail
          go_meet
          exact ⟨_, rfl, Lib.hid ⟨(HX11.out.1.set0 _).set1 _, below_two HB11.out HX11.out.2 _ _, HX11.out.2⟩⟩
        · refine wpOp_step rfl (fun K' hK => ?_)
          go_simp
          have hb : Below wD.heap.size wD (wD.alloc (.cells #[.int .u64 0, .int .u64 0] 126)) := (Below.refl _ _).alloc (Nat.le_refl _) _
          have HB12 := Lib.hid (bthen HB0.out hb)
          have HX12 := Lib.hid (And.intro (C2.new wD 126 (.int .u64 0) (.int .u64 0)) HB0.out.size)
          have hS12 := HSA.out _ HB12.out
          refine hK _ _ ⟨fun _ _ => hS12, trivial, ?_⟩
          clear hK hb
          obtain ⟨v12, hw⟩ : ∃ w', wD.alloc (.cells #[.int .u64 0, .int .u64 0] 126) = w' := ⟨_, rfl⟩
          obtain ⟨b12, hbb⟩ : ∃ b, wD.heap.size = b := ⟨_, rfl⟩
          rw [hw] at HB12 hS12
          rw [hw, hbb] at HX12
          rw [hw, hbb]
          clear hw hbb
          refine anyK_all (n := 1) (rs := [8]) (by kernel_rfl) (by simp) (fun i hi => ?_)
          simp only [List.mem_cons, List.not_mem_nil, or_false] at hi
          obtain rfl := hi
          refine wpOp_step rfl (fun K' hK => ?_)
          go_simp
          refine (HT2.out _).mono ?_
          rintro e v13 ⟨rfl, hb⟩
          have HB13 := Lib.hid (bthen HB12.out hb)
          have HX13 := Lib.hid (And.intro (HX12.out.1.all hb) HX12.out.2)
          have hS13 := HSA.out _ HB13.out
          refine hK _ _ ⟨fun _ _ => hS13, trivial, ?_⟩
          clear hK hb
          obtain ⟨y0, y1, y2, y3, y4⟩ := HX13.out.1
          refine anyK_all (n := 0) (rs := [10]) (by kernel_rfl) (by simp) (fun i hi => ?_)
          simp only [List.mem_cons, List.not_mem_nil, or_false] at hi
          obtain rfl := hi
          refine wpOp_step rfl (fun K' hK => ?_)
          go_simp
          refine hK _ _ ⟨fun h => absurd rfl h, trivial, ?_⟩
          clear hK
          refine ⟨by kernel_rfl, ?_⟩
          go_wp2_with fail
          go_meet
          exact ⟨_, rfl, Lib.hid ⟨(HX13.out.1.set0 _).set1 _, below_two HB13.out HX13.out.2 _ _, HX13.out.2⟩⟩
      · refine wpOp_step rfl (fun K' hK => ?_)
        go_simp
        have hb : Below wD.heap.size wD (wD.alloc (.cells #[.int .u64 0, .int .u64 0] 126)) := (Below.refl _ _).alloc (Nat.le_refl _) _
        have HB14 := Lib.hid (bthen HB0.out hb)
        have HX14 := Lib.hid (And.intro (C2.new wD 126 (.int .u64 0) (.int .u64 0)) HB0.out.size)
        have hS14 := HSA.out _ HB14.out
        refine hK _ _ ⟨fun _ _ => hS14, trivial, ?_⟩
        clear hK hb
        obtain ⟨v14, hw⟩ : ∃ w', wD.alloc (.cells #[.int .u64 0, .int .u64 0] 126) = w' := ⟨_, rfl⟩
        obtain ⟨b14, hbb⟩ : ∃ b, wD.heap.size = b := ⟨_, rfl⟩
        rw [hw] at HB14 hS14
        rw [hw, hbb] at HX14
        rw [hw, hbb]
        clear hw hbb
        refine anyK_all (n := 2) (rs := [5]) (by kernel_rfl) (by simp) (fun i hi => ?_)
        simp only [List.mem_cons, List.not_mem_nil, or_false] at hi
        obtain rfl := hi
        refine wpOp_step rfl (fun K' hK => ?_)
        go_simp
        refine (HM2.out _).mono ?_
        rintro e w' ⟨rfl, rfl⟩
        refine hK _ _ ⟨fun _ _ => hS14, trivial, ?_⟩
        clear hK
        refine anyK_all (n := 1) (rs := [8]) (by kernel_rfl) (by simp) (fun i hi => ?_)
        simp only [List.mem_cons, List.not_mem_nil, or_false] at hi
        obtain rfl := hi
        refine wpOp_step rfl (fun K' hK => ?_)
        go_simp
        refine (HT2.out _).mono ?_
        rintro e v16 ⟨rfl, hb⟩
        have HB16 := Lib.hid (bthen HB14.out hb)
        have HX16 := Lib.hid (And.intro (HX14.out.1.all hb) HX14.out.2)
        have hS16 := HSA.out _ HB16.out
        refine hK _ _ ⟨fun _ _ => hS16, trivial, ?_⟩
        clear hK hb
        obtain ⟨y0, y1, y2, y3, y4⟩ := HX16.out.1
        refine anyK_all (n := 0) (rs := [10]) (by kernel_rfl) (by simp) (fun i hi => ?_)
        simp only [List.mem_cons, List.not_mem_nil, or_false] at hi
        obtain rfl := hi
        refine wpOp_step rfl (fun K' hK => ?_)
        go_simp
        refine hK _ _ ⟨fun h => absurd rfl h, trivial, ?_⟩
        clear hK
        refine ⟨by kernel_rfl, ?_⟩
        go_wp2_with fail
        go_meet
        exact ⟨_, rfl, Lib.hid ⟨(HX16.out.1.set0 _).set1 _, below_two HB16.out HX16.out.2 _ _, HX16.out.2⟩⟩
    case rest =>
      obtain ⟨b6, rfl, HC⟩ := hcut
      have H2 := Lib.hid (And.intro (H1.out.1.all HC.out.2.1) (And.intro (HX5.out.all HC.out.2.1) (And.intro HC.out.1 (bthen H1.out.2.2 HC.out.2.1))))
      clear HC H1 HX5 x0 x1 x2 x3 x4 y0 y1 y2 y3 y4
      obtain ⟨x0, x1, x2, x3, x4⟩ := H2.out.1
      obtain ⟨y0, y1, y2, y3, y4⟩ := H2.out.2.1
      obtain ⟨z0, z1, z2, z3, z4⟩ := H2.out.2.2.1
      unfold wv at HL1 HL2
      rcases Nat.lt_trichotomy (p * c) (q * b) with h | h | h
      · have HV := Lib.hid (B30.cmpN_lt h)
        rw [decide_eq_true h] at HL1
        rw [decide_eq_false (by omega)] at HL2
        clear h
        obtain ⟨X1, hX1⟩ : ∃ v, p * c / 18446744073709551616 = v := ⟨_, rfl⟩
        obtain ⟨X2, hX2⟩ : ∃ v, p * c % 18446744073709551616 = v := ⟨_, rfl⟩
        obtain ⟨Y1, hY1⟩ : ∃ v, q * b / 18446744073709551616 = v := ⟨_, rfl⟩
        obtain ⟨Y2, hY2⟩ : ∃ v, q * b % 18446744073709551616 = v := ⟨_, rfl⟩
        rw [hX1, hX2, hY1, hY2] at HL1 HL2
        rw [hX1] at y0
        rw [hX2] at y1
        rw [hY1] at z0
        rw [hY2] at z1
        clear hX1 hX2 hY1 hY2
        go_wp2_with fail
        refine (HL1.out _).mono ?_
        rintro e w6 ⟨rfl, hb⟩
        have H3 := Lib.hid (And.intro (H2.out.1.all hb) (And.intro ((show C2 wc b5 _ _ from ⟨y0, y1, y2, y3, y4⟩).all hb) (And.intro ((show C2 wc b6 _ _ from ⟨z0, z1, z2, z3, z4⟩).all hb) (bthen H2.out.2.2.2 hb))))
        clear hb x0 x1 x2 x3 x4 y0 y1 y2 y3 y4 z0 z1 z2 z3 z4 H2
        obtain ⟨x0, x1, x2, x3, x4⟩ := H3.out.1
        obtain ⟨y0, y1, y2, y3, y4⟩ := H3.out.2.1
        obtain ⟨z0, z1, z2, z3, z4⟩ := H3.out.2.2.1
        go_wp2_with fail
        refine (HL2.out _).mono ?_
        rintro e w7 ⟨rfl, hb⟩
        have H4 := Lib.hid (And.intro (H3.out.1.all hb) (bthen H3.out.2.2.2 hb))
        clear hb x0 x1 x2 x3 x4 y0 y1 y2 y3 y4 z0 z1 z2 z3 z4 H3
        obtain ⟨x0, x1, x2, x3, x4⟩ := H4.out.1
        go_wp2_with fail
        go_ret
        exact ⟨by rw [HV.out]; rfl, H4.out.2⟩
      · have HV := Lib.hid (show B30.cmpN (p * c) (q * b) = 0 by rw [h]; exact B30.cmpN_eq _)
        rw [decide_eq_false (by omega)] at HL1 HL2
        clear h
        obtain ⟨X1, hX1⟩ : ∃ v, p * c / 18446744073709551616 = v := ⟨_, rfl⟩
        obtain ⟨X2, hX2⟩ : ∃ v, p * c % 18446744073709551616 = v := ⟨_, rfl⟩
        obtain ⟨Y1, hY1⟩ : ∃ v, q * b / 18446744073709551616 = v := ⟨_, rfl⟩
        obtain ⟨Y2, hY2⟩ : ∃ v, q * b % 18446744073709551616 = v := ⟨_, rfl⟩
        rw [hX1, hX2, hY1, hY2] at HL1 HL2
        rw [hX1] at y0
        rw [hX2] at y1
        rw [hY1] at z0
        rw [hY2] at z1
        clear hX1 hX2 hY1 hY2
        go_wp2_with fail
        refine (HL1.out _).mono ?_
        rintro e w6 ⟨rfl, hb⟩
        have H3 := Lib.hid (And.intro (H2.out.1.all hb) (And.intro ((show C2 wc b5 _ _ from ⟨y0, y1, y2, y3, y4⟩).all hb) (And.intro ((show C2 wc b6 _ _ from ⟨z0, z1, z2, z3, z4⟩).all hb) (bthen H2.out.2.2.2 hb))))
        clear hb x0 x1 x2 x3 x4 y0 y1 y2 y3 y4 z0 z1 z2 z3 z4 H2
        obtain ⟨x0, x1, x2, x3, x4⟩ := H3.out.1
        obtain ⟨y0, y1, y2, y3, y4⟩ := H3.out.2.1
        obtain ⟨z0, z1, z2, z3, z4⟩ := H3.out.2.2.1
        go_wp2_with fail
        refine (HL2.out _).mono ?_
        rintro e w7 ⟨rfl, hb⟩
        have H4 := Lib.hid (And.intro (H3.out.1.all hb) (bthen H3.out.2.2.2 hb))
        clear hb x0 x1 x2 x3 x4 y0 y1 y2 y3 y4 z0 z1 z2 z3 z4 H3
        obtain ⟨x0, x1, x2, x3, x4⟩ := H4.out.1
        go_wp2_with fail
        go_ret
        exact ⟨by rw [HV.out]; rfl, H4.out.2⟩
      · have HV := Lib.hid (B30.cmpN_gt h)
        rw [decide_eq_false (by omega)] at HL1
        rw [decide_eq_true h] at HL2
        clear h
        obtain ⟨X1, hX1⟩ : ∃ v, p * c / 18446744073709551616 = v := ⟨_, rfl⟩
        obtain ⟨X2, hX2⟩ : ∃ v, p * c % 18446744073709551616 = v := ⟨_, rfl⟩
        obtain ⟨Y1, hY1⟩ : ∃ v, q * b / 18446744073709551616 = v := ⟨_, rfl⟩
        obtain ⟨Y2, hY2⟩ : ∃ v, q * b % 18446744073709551616 = v := ⟨_, rfl⟩
        rw [hX1, hX2, hY1, hY2] at HL1 HL2
        rw [hX1] at y0
        rw [hX2] at y1
        rw [hY1] at z0
        rw [hY2] at z1
        clear hX1 hX2 hY1 hY2
        go_wp2_with fail
        refine (HL1.out _).mono ?_
        rintro e w6 ⟨rfl, hb⟩
        have H3 := Lib.hid (And.intro (H2.out.1.all hb) (And.intro ((show C2 wc b5 _ _ from ⟨y0, y1, y2, y3, y4⟩).all hb) (And.intro ((show C2 wc b6 _ _ from ⟨z0, z1, z2, z3, z4⟩).all hb) (bthen H2.out.2.2.2 hb))))
        clear hb x0 x1 x2 x3 x4 y0 y1 y2 y3 y4 z0 z1 z2 z3 z4 H2
        obtain ⟨x0, x1, x2, x3, x4⟩ := H3.out.1
        obtain ⟨y0, y1, y2, y3, y4⟩ := H3.out.2.1
        obtain ⟨z0, z1, z2, z3, z4⟩ := H3.out.2.2.1
        go_wp2_with fail
        refine (HL2.out _).mono ?_
        rintro e w7 ⟨rfl, hb⟩
        have H4 := Lib.hid (And.intro (H3.out.1.all hb) (bthen H3.out.2.2.2 hb))
        clear hb x0 x1 x2 x3 x4 y0 y1 y2 y3 y4 z0 z1 z2 z3 z4 H3
        obtain ⟨x0, x1, x2, x3, x4⟩ := H4.out.1
        go_wp2_with fail
        go_ret
        exact ⟨by rw [HV.out]; rfl, H4.out.2⟩
end Go.Proofs.YtaneocedklnajaaGreat
/- The reference's level of a value. No condition. -/
namespace Go.Proofs.YtaneocedklnajaaGreat
open Go.RowKit
set_option linter.unusedVariables false

/-- Whether a chance is at most p / d. -/
def lvQ (fs : List Int) (p d : Int) (k : Nat) : Bool := decide ((frN fs k).toNat * d.toNat ≤ p.toNat * (frD fs k).toNat)
theorem lvQ_cmp (fs : List Int) (p d : Int) (k : Nat) : decide (B30.cmpN ((frN fs k).toNat * d.toNat) (p.toNat * (frD fs k).toNat) ≤ 0) = lvQ fs p d k := by
  unfold lvQ B30.cmpN
  rcases Nat.lt_trichotomy ((frN fs k).toNat * d.toNat) (p.toNat * (frD fs k).toNat) with h | h | h
  · rw [if_pos h, decide_eq_true (by omega), decide_eq_true (by omega)]
  · rw [if_neg (by omega), if_neg (by omega), decide_eq_true (by omega), decide_eq_true (by omega)]
  · rw [if_neg (by omega), if_pos h, decide_eq_false (by omega), decide_eq_false (by omega)]
theorem sumW_congr {R S : Nat → Rat} : ∀ {n : Nat}, (∀ k, k < n → R k = S k) → B30.sumW R n = B30.sumW S n
  | 0, _ => rfl
  | n + 1, h => by rw [B30.sumW, B30.sumW, sumW_congr (fun k hk => h k (by omega)), h n (by omega)]
theorem wlI_congr {w : World} {k : Nat} {v : Value} {R S : Nat → Rat} {bd : Nat} {xs : List Value} {wr : World} (h : B30.WlI w k v R bd xs wr) (e : ∀ j, j < k → R j = S j) : B30.WlI w k v S bd xs wr :=
  ⟨h.own, fun j hj => by rw [← e j hj]; exact h.el j hj, h.bel⟩
theorem chP_ok {vs fs : List Int} {n : Nat} {v : Int} (hok : ∀ k, k < n → vF (frN fs k) (frD fs k) = true) (hpos : ∀ k, k < n → 0 < frN fs k) : 0 ≤ (chP vs fs n v).1 ∧ vF (chP vs fs n v).1 (chP vs fs n v).2 = true := by
  unfold chP
  split
  · rename_i k hk
    have hlt : k < n := List.mem_range.1 (List.mem_of_find?_eq_some hk)
    exact ⟨Int.le_of_lt (hpos k hlt), hok k hlt⟩
  · exact ⟨Int.le_refl _, by decide⟩
theorem wpList_ap6 {P : Program} {ops : Array Oper} {rest : List Oper} {o : Oper} {a : Act} {w : World} {Q : Exit → Act → World → Prop} (hgd : o.guard = none) (s x : Operand) (t : TypeId)
    (ho : o.op = .call { callee := .builtin .append, args := #[s, x], argTypes := #[t, t] })
    (base : Nat) (e : TypeId) (z : Value) (bytes : Nat) (ht : P.underlying t = some (.slice e)) (hinfo : (P.info? e).map (fun i => (i.zero, i.size, i.bytes)) = some (some z, 6, bytes)) (hzs : z.cells.size = 6)
    (v : Value) (n : Nat) (xs : List Value) (hs : a.eval s = v) (hown : w.ownsRow base e 6 v n xs) (b : Nat) (u0 u1 u2 u3 u4 u5 : Value) (hx : a.eval x = .slice (some ⟨b, 0, none⟩) 1 1)
    (hu : B30.C6 w b u0 u1 u2 u3 u4 u5) (h1 : ([u0, u1, u2, u3, u4, u5].all Value.oneCell') = true) (hn : n < 1099511627) (hb : bytes ≤ 128) (hbase : base ≤ w.heap.size)
    (h : ∀ v' w', w'.ownsRow base e 6 v' (n + 1) (xs ++ [u0, u1, u2, u3, u4, u5]) → w.grownBy w' v.ownBlock → (v'.ownBlock = v.ownBlock ∨ v'.ownBlock = some w.heap.size) → wpList P ops Q rest (a.put o.dst v') w') : wpList P ops Q (o :: rest) a w := by
  refine wpList_plain hgd fun K hK => ?_
  exact B30.wp_ap6 s x t ho base e z bytes ht hinfo hzs v n xs hs hown b u0 u1 u2 u3 u4 u5 hx hu h1 hn hb hbase fun v' w' h2 h3 h4 => hK _ _ (h v' w' h2 h3 h4)
/-- What the reference's loop reads. -/
structure LqI (w : World) (V C : Value) (a2 : Option Addr) (n : Nat) (fs : List Int) (b6 : Nat) (p d : Int) (wr : World) : Prop where
  bx : C2 wr w.heap.size V C
  res : C2 wr (w.heap.size + 1) (.int .i64 0) (.int .i64 0)
  own : C2 wr b6 (.int .i64 p) (.int .i64 d)
  cha : IsInts wr a2 (n * 2) fs
  bel : Below w.heap.size w wr
theorem LqI.all {w wr wx : World} {V C : Value} {a2 : Option Addr} {n b6 : Nat} {fs : List Int} {p d : Int} (h : LqI w V C a2 n fs b6 p d wr) (hb : Below wr.heap.size wr wx) : LqI w V C a2 n fs b6 p d wx := ⟨h.bx.all hb, h.res.all hb, h.own.all hb, h.cha.below hb, bthen h.bel hb⟩
end Go.Proofs.YtaneocedklnajaaGreat
/- The program's level of a value. No condition. -/
namespace Go.Proofs.YtaneocedklnajaaGreat
open Go.RowKit
set_option linter.unusedVariables false

set_option maxHeartbeats 800000 in
theorem isZero_any (sg : Bool) (a1 a2 : Option Addr) (l1 c1 l2 c2 : Nat) (w : World) :
    Calls Tryz.prog 126 #[.agg #[.bool sg, .slice a1 l1 c1, .slice a2 l2 c2]] w fun e w' => e = .returned (.bool (decide (l1 = 0))) ∧ Below w.heap.size w w' := by
  have hA : Below w.heap.size w (w.alloc (.cells #[.bool sg, .slice a1 l1 c1, .slice a2 l2 c2] 66)) := (Below.refl _ w).alloc (Nat.le_refl _) _
  have hc := C3.new w 66 (.bool sg) (.slice a1 l1 c1) (.slice a2 l2 c2)
  have HA := Lib.hid hA
  obtain ⟨x0, x1, x2, x3, x4, x5, x6⟩ := hc
  clear hA
  rcases Nat.eq_zero_or_pos l1 with rfl | h
  · go_enter Tryz.func126, Tryz.ntmps126
    go_wp2
    go_ret
    exact ⟨rfl, HA.out⟩
  · have HV := Lib.hid (show decide (l1 = 0) = false from decide_eq_false (by omega))
    have hne : ((l1 : Int) == 0) = false := by rw [beq_eq_false_iff_ne]; omega
    have HNE := Lib.hid hne
    clear h
    go_enter Tryz.func126, Tryz.ntmps126
    go_wp2
    go_ret
    refine ⟨?_, HA.out⟩
    rw [HV.out]
    try rw [HNE.out]
    try rfl
theorem le_num (r s : Rat) : (r - s).num ≤ 0 ↔ r ≤ s := by
  rw [Rat.le_iff_sub_nonneg r s, ← Rat.num_nonneg]
  have e : s - r = -(r - s) := by rw [Rat.neg_sub]
  rw [e, Rat.neg_num]
  omega
set_option maxHeartbeats 800000 in
theorem compare_rr (r s : Rat) (x y : Nat) (a1 a2 b1 b2 : Option Addr) (c1 c2 k1 k2 l1 l2 m1 m2 : Nat) (w : World) (h1 : RawV w a1 a2 l1 l2 r.num.natAbs r.den) (h2 : RawV w b1 b2 m1 m2 s.num.natAbs s.den) (hx : bitsR r x) (hy : bitsR s y) (bx : x ≤ 1000000) (bY : y ≤ 1000000) :
    Calls Tryz.prog 90 #[.agg #[.bool (decide (r.num < 0)), .slice a1 l1 c1, .slice a2 l2 c2], .agg #[.bool (decide (s.num < 0)), .slice b1 m1 k1, .slice b2 m2 k2]] w fun e w' => (∃ c : Int, e = .returned (.int .i64 c) ∧ (c ≤ 0 ↔ r ≤ s)) ∧ Below w.heap.size w w' := by
  obtain ⟨s1, hs1⟩ : ∃ b, decide (r.num < 0) = b := ⟨_, rfl⟩
  obtain ⟨s2, hs2⟩ : ∃ b, decide (s.num < 0) = b := ⟨_, rfl⟩
  have hA : Below w.heap.size w ((w.alloc (.cells #[.bool s1, .slice a1 l1 c1, .slice a2 l2 c2] 66)).alloc (.cells #[.bool s2, .slice b1 m1 k1, .slice b2 m2 k2] 66)) := ((Below.refl _ w).alloc (Nat.le_refl _) _).alloc (by simp) _
  have hc0 : C3 ((w.alloc (.cells #[.bool s1, .slice a1 l1 c1, .slice a2 l2 c2] 66)).alloc (.cells #[.bool s2, .slice b1 m1 k1, .slice b2 m2 k2] 66)) w.heap.size (.bool s1) (.slice a1 l1 c1) (.slice a2 l2 c2) := (C3.new w _ _ _ _).all ((Below.refl _ _).alloc (Nat.le_refl _) _)
  have hc1 : C3 ((w.alloc (.cells #[.bool s1, .slice a1 l1 c1, .slice a2 l2 c2] 66)).alloc (.cells #[.bool s2, .slice b1 m1 k1, .slice b2 m2 k2] 66)) (w.heap.size + 1) (.bool s2) (.slice b1 m1 k1) (.slice b2 m2 k2) := by
    have := C3.new (w.alloc (.cells #[.bool s1, .slice a1 l1 c1, .slice a2 l2 c2] 66)) 66 (.bool s2) (.slice b1 m1 k1) (.slice b2 m2 k2)
    rw [alloc_size] at this; exact this
  have H0 := Lib.hid (And.intro hA (And.intro hc0 (And.intro hc1 (And.intro (h1.below hA) (h2.below hA)))))
  have HMI := Lib.hid (fun w h1 h2 => minus_rr r s x y a1 a2 b1 b2 c1 c2 k1 k2 l1 l2 m1 m2 w h1 h2 hx hy bx bY)
  rw [hs1, hs2] at *
  clear hA hc0 hc1 h1 h2 hx hy hs1 hs2
  go_enter Tryz.func90, Tryz.ntmps90
  go_wp2_with fail
  obtain ⟨wA, hwA⟩ : ∃ w', ((w.alloc (.cells #[.bool s1, .slice a1 l1 c1, .slice a2 l2 c2] 66)).alloc (.cells #[.bool s2, .slice b1 m1 k1, .slice b2 m2 k2] 66)) = w' := ⟨_, rfl⟩
  rw [hwA] at H0 ⊢
  clear hwA
  obtain ⟨x0, x1, x2, _, _, _, _⟩ := H0.out.2.1
  obtain ⟨y0, y1, y2, _, _, _, _⟩ := H0.out.2.2.1
  go_wp2_with fail
  refine (HMI.out _ H0.out.2.2.2.1 H0.out.2.2.2.2).mono ?_
  rintro e w1 ⟨sg, d1, k3, l3, d2, k4, l4, rfl, hr, hb, hsg⟩
  have hb1 : Below w1.heap.size w1 (w1.alloc (.cells #[.bool sg, .slice d1 l3 k3, .slice d2 l4 k4] 66)) := (Below.refl _ _).alloc (Nat.le_refl _) _
  have H1 := Lib.hid (And.intro (bthen (bthen H0.out.1 hb) hb1) (C3.new w1 66 (.bool sg) (.slice d1 l3 k3) (.slice d2 l4 k4)))
  have HL := Lib.hid hr.e1
  have HSG := Lib.hid hsg
  have HLE := Lib.hid (le_num r s)
  have HIZ := Lib.hid (fun w => isZero_any sg d1 d2 l3 k3 l4 k4 w)
  clear hr hb hb1 hsg H0 HMI x0 x1 x2 y0 y1 y2
  obtain ⟨z, hz⟩ : ∃ z, decide (l3 = 0) = z := ⟨_, rfl⟩
  rw [hz] at HIZ
  have HZ : Hid (z = decide ((r - s).num.natAbs = 0)) := Lib.hid (by
    rw [← hz, ← HL.out]
    rcases Nat.eq_zero_or_pos (r - s).num.natAbs with h | h
    · rw [h, digs_zero]; rfl
    · have hn : (digs (r - s).num.natAbs).length ≠ 0 := fun e => by
        have h2 := digs_lt (r - s).num.natAbs
        rw [e, Nat.pow_zero] at h2
        omega
      rw [decide_eq_false hn, decide_eq_false (show ¬ (r - s).num.natAbs = 0 by omega)])
  clear hz
  go_wp2_with fail
  obtain ⟨b5, hb5⟩ : ∃ b, w1.heap.size = b := ⟨_, rfl⟩
  obtain ⟨w2, hw2⟩ : ∃ w', w1.alloc (.cells #[.bool sg, .slice d1 l3 k3, .slice d2 l4 k4] 66) = w' := ⟨_, rfl⟩
  rw [hw2, hb5] at H1
  try rw [hw2]
  try rw [hb5]
  clear hw2 hb5
  refine (HIZ.out _).mono ?_
  rintro e w3 ⟨rfl, hb⟩
  have H3 := Lib.hid (And.intro (bthen H1.out.1 hb) (H1.out.2.all hb))
  clear hb
  obtain ⟨x0, x1, x2, _, _, _, _⟩ := H3.out.2
  cases z with
  | true =>
    go_wp2_with fail
    go_ret
    refine ⟨⟨0, rfl, ?_⟩, H3.out.1⟩
    rw [← HLE.out]
    have := of_decide_eq_true HZ.out.symm
    omega
  | false =>
    have HZ2 := Lib.hid (of_decide_eq_false HZ.out.symm)
    cases sg with
    | true =>
      go_wp2_with fail
      go_ret
      refine ⟨⟨-1, rfl, ?_⟩, H3.out.1⟩
      rw [← HLE.out]
      have := of_decide_eq_true HSG.out.symm
      omega
    | false =>
      go_wp2_with fail
      go_ret
      refine ⟨⟨1, rfl, ?_⟩, H3.out.1⟩
      rw [← HLE.out]
      have := of_decide_eq_false HSG.out.symm
      have := HZ2.out
      omega
end Go.Proofs.YtaneocedklnajaaGreat
/- The program's level of a value: the closure and the law. No condition. -/
namespace Go.Proofs.YtaneocedklnajaaGreat
open Go.RowKit
set_option linter.unusedVariables false

theorem lvQ_le {fs : List Int} {p d : Int} {k : Nat} (h1 : vF (frN fs k) (frD fs k) = true) (h0 : 0 ≤ frN fs k) (h2 : vF p d = true) (hp : 0 ≤ p) : frR fs k ≤ mkRat p d.toNat ↔ lvQ fs p d k = true := by
  obtain ⟨e1, e2, _⟩ := vF_parts h1
  obtain ⟨e3, e4, _⟩ := vF_parts h2
  obtain ⟨⟨u1, u2⟩, _, _⟩ := vF_iff.1 h1
  obtain ⟨⟨v1, v2⟩, _, _⟩ := vF_iff.1 h2
  unfold lvQ
  rw [decide_eq_true_iff, Rat.le_iff]
  unfold frR
  rw [e1, e2, e3, e4]
  obtain ⟨A, hA⟩ := Int.eq_ofNat_of_zero_le h0
  obtain ⟨B, hB⟩ := Int.eq_ofNat_of_zero_le (show 0 ≤ frD fs k by omega)
  obtain ⟨C, hC⟩ := Int.eq_ofNat_of_zero_le hp
  obtain ⟨D, hD⟩ := Int.eq_ofNat_of_zero_le (show 0 ≤ d by omega)
  rw [hA, hB, hC, hD]
  simp only [Int.toNat_natCast]
  rw [← Int.natCast_mul, ← Int.natCast_mul]
  omega
set_option maxHeartbeats 800000 in
theorem level1_any (b b2 k n : Nat) (a2 : Option Addr) (c2 : Nat) (V : Value) (fs : List Int) (r : Rat) (w : World) (hk : k < n) (hn : n ≤ 64) (hb : C2 w b V (.slice a2 n c2)) (hr : RBox w b2 r) (hx : IsInts w a2 (n * 2) fs) (hv : vF (frN fs k) (frD fs k) = true) (hbits : bitsR r 60) :
    Calls Tryz.prog 89 #[.int .i64 (k : Nat), .pointer (some ⟨b, 0, none⟩), .pointer (some ⟨b2, 0, none⟩)] w fun e w' => e = .returned (.bool (decide (frR fs k ≤ r))) ∧ Below w.heap.size w w' := by
  obtain ⟨u1, g1, s1, u2, g2, s2, hC3, hRV⟩ := hr
  obtain ⟨sg, hsg⟩ : ∃ sg, decide (r.num < 0) = sg := ⟨_, rfl⟩
  rw [hsg] at hC3
  obtain ⟨g, off, rfl, e1, e2⟩ := fr_at hx hk
  have HRV := Lib.hid hRV
  have HSG := Lib.hid hsg
  have HR := Lib.hid (fun w => ratioOf_rr (frN fs k) (frD fs k) w hv)
  have HFB := Lib.hid (frR_bits hv)
  have HC2 := Lib.hid hb
  have HC3 := Lib.hid hC3
  have hk0 : (0:Int) ≤ (k:Int) := by omega
  have hkl : (k:Int) < (n:Int) := by omega
  obtain ⟨x0, x1, x2, x3, x4⟩ := hb
  obtain ⟨z0, z1, z2, z3, z4, z5, z6⟩ := hC3
  clear hx hRV hsg hv
  go_enter Tryz.func89, Tryz.ntmps89
  go_wp2_with fail
  have HSA : Hid (∀ w', Below w.heap.size w w' → w'.cell? ⟨b, 1, none⟩ = some (.slice (some ⟨g, off, none⟩) n c2) ∧ w'.cell? ⟨g, off + k * 2, none⟩ = some (.int .i64 (frN fs k)) ∧ w'.cell? ⟨g, off + k * 2 + 1, none⟩ = some (.int .i64 (frD fs k)) ∧ w'.cell? ⟨b2, 0, none⟩ = some (.bool sg) ∧ w'.cell? ⟨b2, 1, none⟩ = some (.slice u1 s1 g1) ∧ w'.cell? ⟨b2, 2, none⟩ = some (.slice u2 s2 g2)) := Lib.hid (fun w' hb => ⟨(HC2.out.all hb).c1, (hb.cell (p := ⟨g, off + k * 2, none⟩) (World.block_lt_of_cell? w _ e1)).trans e1, (hb.cell (p := ⟨g, off + k * 2 + 1, none⟩) (World.block_lt_of_cell? w _ e2)).trans e2, (HC3.out.all hb).c0, (HC3.out.all hb).c1, (HC3.out.all hb).c2⟩)
  have HB0 := Lib.hid ((Below.refl w.heap.size w).drew)
  have hS : w.drew.cell? ⟨b, 1, none⟩ = some (.slice (some ⟨g, off, none⟩) n c2) ∧ w.drew.cell? ⟨g, off + k * 2, none⟩ = some (.int .i64 (frN fs k)) ∧ w.drew.cell? ⟨g, off + k * 2 + 1, none⟩ = some (.int .i64 (frD fs k)) ∧ w.drew.cell? ⟨b2, 0, none⟩ = some (.bool sg) ∧ w.drew.cell? ⟨b2, 1, none⟩ = some (.slice u1 s1 g1) ∧ w.drew.cell? ⟨b2, 2, none⟩ = some (.slice u2 s2 g2) := HSA.out _ HB0.out
  clear x0 x1 x2 x3 x4 z0 z1 z2 z3 z4 z5 z6 e1 e2
  refine wp_region_any (by kernel_rfl) (any_of_K (k := 9) (S := fun _ => True) (T := fun w' => w'.cell? ⟨b, 1, none⟩ = some (.slice (some ⟨g, off, none⟩) n c2) ∧ w'.cell? ⟨g, off + k * 2, none⟩ = some (.int .i64 (frN fs k)) ∧ w'.cell? ⟨g, off + k * 2 + 1, none⟩ = some (.int .i64 (frD fs k)) ∧ w'.cell? ⟨b2, 0, none⟩ = some (.bool sg) ∧ w'.cell? ⟨b2, 1, none⟩ = some (.slice u1 s1 g1) ∧ w'.cell? ⟨b2, 2, none⟩ = some (.slice u2 s2 g2)) _ _ _ _ ?_)
  refine anyT_take (i := 0) (n := 9) (v := .pointer (some ⟨b, 1, none⟩)) rfl (by decide) (by kernel_rfl) (by kernel_rfl) (by kernel_rfl) (fun _ _ _ h => h) (Or.inl ⟨by kernel_rfl, fun w' hw => by go_simp⟩) trivial hS ?_
  refine anyT_take (i := 1) (n := 8) (v := .slice (some ⟨g, off, none⟩) n c2) rfl (by decide) (by kernel_rfl) (by kernel_rfl) (by kernel_rfl) (fun _ _ _ h => h) (Or.inl ⟨by kernel_rfl, fun w' hw => by (obtain ⟨z0, z1, z2, z3, z4, z5⟩ := hw; go_simp)⟩) trivial hS ?_
  refine anyT_take (i := 2) (n := 7) (v := .int .i64 (k : Nat)) rfl (by decide) (by kernel_rfl) (by kernel_rfl) (by kernel_rfl) (fun _ _ _ h => h) (Or.inl ⟨by kernel_rfl, fun w' hw => by go_simp⟩) trivial hS ?_
  refine anyT_take (i := 3) (n := 6) (v := .pointer (some ⟨g, off + k * 2, none⟩)) rfl (by decide) (by kernel_rfl) (by kernel_rfl) (by kernel_rfl) (fun _ _ _ h => h) (Or.inl ⟨by kernel_rfl, fun w' hw => by go_simp⟩) trivial hS ?_
  refine anyT_take (i := 4) (n := 5) (v := .agg #[.int .i64 (frN fs k), .int .i64 (frD fs k)]) rfl (by decide) (by kernel_rfl) (by kernel_rfl) (by kernel_rfl) (fun _ _ _ h => h) (Or.inl ⟨by kernel_rfl, fun w' hw => by (obtain ⟨z0, z1, z2, z3, z4, z5⟩ := hw; go_simp)⟩) trivial hS ?_
  refine anyT_take (i := 6) (n := 4) (v := .agg #[.bool sg, .slice u1 s1 g1, .slice u2 s2 g2]) rfl (by decide) (by kernel_rfl) (by kernel_rfl) (by kernel_rfl) (fun _ _ _ h => h) (Or.inl ⟨by kernel_rfl, fun w' hw => by (obtain ⟨z0, z1, z2, z3, z4, z5⟩ := hw; go_simp)⟩) trivial hS ?_
  refine anyK_all (n := 3) (rs := [5]) (by kernel_rfl) (by simp) (fun i hi => ?_)
  simp only [List.mem_cons, List.not_mem_nil, or_false] at hi
  obtain rfl := hi
  refine wpOp_step rfl (fun K' hK => ?_)
  go_simp
  refine (HR.out _).mono ?_
  rintro e w5 ⟨sg2, i1, j1, m1, i2, j2, m2, rfl, hv5, hb5, hsg2⟩
  have HB5 := Lib.hid (bthen HB0.out hb5)
  have hS5 := HSA.out _ HB5.out
  have HCM := Lib.hid (compare_rr (frR fs k) r 60 60 i1 i2 u1 u2 j1 j2 g1 g2 m1 m2 s1 s2 w5 hv5 (HRV.out.below HB5.out) HFB.out hbits (by omega) (by omega))
  rw [HSG.out, show decide ((frR fs k).num < 0) = sg2 from hsg2.symm] at HCM
  refine hK _ _ ⟨fun _ _ => trivial, hS5, ?_⟩
  clear hK hv5 hb5 hsg2 hS
  refine anyK_all (n := 2) (rs := [7]) (by kernel_rfl) (by simp) (fun i hi => ?_)
  simp only [List.mem_cons, List.not_mem_nil, or_false] at hi
  obtain rfl := hi
  refine wpOp_step rfl (fun K' hK => ?_)
  go_simp
  refine HCM.out.mono ?_
  rintro e w6 ⟨⟨cc, rfl, hcc⟩, hb6⟩
  have HB6 := Lib.hid (bthen HB5.out hb6)
  have hS6 := HSA.out _ HB6.out
  have HCC := Lib.hid (show decide (cc ≤ 0) = decide (frR fs k ≤ r) from by rw [decide_eq_decide]; exact hcc)
  refine hK _ _ ⟨fun _ _ => trivial, hS6, ?_⟩
  clear hK hb6 hcc hS5
  refine anyK_all (n := 1) (rs := [8]) (by kernel_rfl) (by simp) (fun i hi => ?_)
  simp only [List.mem_cons, List.not_mem_nil, or_false] at hi
  obtain rfl := hi
  refine wpOp_step rfl (fun K' hK => ?_)
  go_simp
  refine hK _ _ ⟨fun _ _ => trivial, hS6, ?_⟩
  clear hK
  refine anyK_all (n := 0) (rs := [9]) (by kernel_rfl) (by simp) (fun i hi => ?_)
  simp only [List.mem_cons, List.not_mem_nil, or_false] at hi
  obtain rfl := hi
  refine wpOp_step rfl (fun K' hK => ?_)
  go_simp
  refine hK _ _ ⟨fun h => absurd rfl h, hS6, ?_⟩
  clear hK
  refine ⟨by kernel_rfl, ?_⟩
  go_wp2_with fail
  go_ret
  refine ⟨?_, HB6.out⟩
  rw [← HCC.out]
  rfl
end Go.Proofs.YtaneocedklnajaaGreat
/- The program's level of a value, and the law. No condition. -/
namespace Go.Proofs.YtaneocedklnajaaGreat
open Go.RowKit
set_option linter.unusedVariables false

theorem pick_congr {fs : List Int} {q r : Nat → Bool} : ∀ {n : Nat}, (∀ k, k < n → q k = r k) → pickR fs q n = pickR fs r n
  | 0, _ => rfl
  | n + 1, h => by rw [pickR, pickR, h n (by omega), pick_congr (fun k hk => h k (by omega))]
theorem frR_bits' {p d : Int} (h : vF p d = true) : bitsR (mkRat p d.toNat) 60 := bits_fit (vF_parts h).2.2
set_option maxHeartbeats 1600000 in
theorem level_any (a1 a2 : Option Addr) (n c1 c2 : Nat) (vs fs : List Int) (v : Int) (w : World) (hQ : LawQ vs fs n) (h1 : IsInts w a1 n vs) (h2 : IsInts w a2 (n * 2) fs) :
    Calls Tryz.prog 49 #[.agg #[.slice a1 n c1, .slice a2 n c2], .int .i64 v] w fun e w' => e = .returned (fracV (pickR fs (lvQ fs (chP vs fs n v).1 (chP vs fs n v).2) n)) ∧ Below w.heap.size w w' := by
  have hA : Below w.heap.size w ((w.alloc (.cells #[.slice a1 n c1, .slice a2 n c2] 29)).alloc (.cells #[.int .i64 0, .int .i64 0] 40)) := ((Below.refl _ w).alloc (Nat.le_refl _) _).alloc (by simp) _
  have hc0 : C2 ((w.alloc (.cells #[.slice a1 n c1, .slice a2 n c2] 29)).alloc (.cells #[.int .i64 0, .int .i64 0] 40)) w.heap.size (.slice a1 n c1) (.slice a2 n c2) := (C2.new w _ _ _).all ((Below.refl _ _).alloc (Nat.le_refl _) _)
  have hc1 : C2 ((w.alloc (.cells #[.slice a1 n c1, .slice a2 n c2] 29)).alloc (.cells #[.int .i64 0, .int .i64 0] 40)) (w.heap.size + 1) (.int .i64 0) (.int .i64 0) := by
    have := C2.new (w.alloc (.cells #[.slice a1 n c1, .slice a2 n c2] 29)) 40 (.int .i64 0) (.int .i64 0)
    rw [alloc_size] at this; exact this
  have H0 := Lib.hid (And.intro hc0 (And.intro hc1 (And.intro (h1.below hA) (And.intro (h2.below hA) hA))))
  have hn64 := hQ.n64
  have HCH := Lib.hid (fun w h1 h2 => chance_any a1 a2 n c1 c2 vs fs v w (by omega) h1 h2 hQ.mono)
  have HOK := Lib.hid (chP_ok (v := v) hQ.ok hQ.pos (vs := vs))
  have HQ := Lib.hid hQ
  clear hA hc0 hc1 h1 h2 hQ
  obtain ⟨p, hp⟩ : ∃ p, (chP vs fs n v).1 = p := ⟨_, rfl⟩
  obtain ⟨d, hd⟩ : ∃ d, (chP vs fs n v).2 = d := ⟨_, rfl⟩
  rw [hp, hd] at HCH HOK ⊢
  have HR := Lib.hid (fun w => ratioOf_rr p d w HOK.out.2)
  clear hp hd
  obtain ⟨pp, qq, b', hform⟩ := fracV_form' (pickR fs (lvQ fs p d) n)
  have HFO := Lib.hid hform
  clear hform
  go_enter Tryz.func49, Tryz.ntmps49
  go_wp2_with fail
  obtain ⟨wA, hwA⟩ : ∃ w', ((w.alloc (.cells #[.slice a1 n c1, .slice a2 n c2] 29)).alloc (.cells #[.int .i64 0, .int .i64 0] 40)) = w' := ⟨_, rfl⟩
  rw [hwA] at H0
  try rw [hwA]
  clear hwA
  obtain ⟨x0, x1, x2, x3, x4⟩ := H0.out.1
  go_wp2_with fail
  refine (HCH.out _ H0.out.2.2.1 H0.out.2.2.2.1).mono ?_
  rintro e w1 ⟨rfl, hb⟩
  have H1 := Lib.hid (And.intro (H0.out.1.all hb) (And.intro (H0.out.2.1.all hb) (And.intro (H0.out.2.2.1.below hb) (And.intro (H0.out.2.2.2.1.below hb) (bthen H0.out.2.2.2.2 hb)))))
  clear hb H0 x0 x1 x2 x3 x4
  go_wp2_with fail
  refine (HR.out _).mono ?_
  rintro e w2 ⟨sg, d1, k3, l3, d2, k4, l4, rfl, hr, hb, hsg⟩
  have hb2 : Below w2.heap.size w2 (w2.alloc (.cells #[.bool sg, .slice d1 l3 k3, .slice d2 l4 k4] 66)) := (Below.refl _ _).alloc (Nat.le_refl _) _
  have hbb := bthen hb hb2
  have H2 := Lib.hid (And.intro (H1.out.1.all hbb) (And.intro (H1.out.2.1.all hbb) (And.intro (H1.out.2.2.1.below hbb) (And.intro (H1.out.2.2.2.1.below hbb) (And.intro (bthen H1.out.2.2.2.2 hbb)
    (show RBox (w2.alloc (.cells #[.bool sg, .slice d1 l3 k3, .slice d2 l4 k4] 66)) w2.heap.size (mkRat p d.toNat) from ⟨d1, k3, l3, d2, k4, l4, by rw [← hsg]; exact C3.new w2 _ _ _ _, hr.below hb2⟩))))))
  clear hr hb hb2 hbb hsg H1
  obtain ⟨x0, x1, x2, x3, x4⟩ := H2.out.1
  go_wp2_with fail
  obtain ⟨b6, hb6⟩ : ∃ b, w2.heap.size = b := ⟨_, rfl⟩
  obtain ⟨w3, hw3⟩ : ∃ w', w2.alloc (.cells #[.bool sg, .slice d1 l3 k3, .slice d2 l4 k4] 66) = w' := ⟨_, rfl⟩
  rw [hw3, hb6] at H2
  rw [hw3, hb6]
  rw [hw3] at x0 x1 x2 x3 x4
  clear hw3 hb6
  have hqe : lvQ fs p d = lvQ fs p d := rfl
  have HS := sumOver_any 89 ⟨w.heap.size, 0, none⟩ ⟨b6, 0, none⟩ (fun k => decide (frR fs k ≤ mkRat p d.toNat)) a1 a2 n n c1 c2 vs fs w3 hn64 H2.out.2.2.2.1 HQ.out.ok (fun _ _ => by kernel_rfl) (fun k hk wr hb =>
    level1_any w.heap.size b6 k n a2 c2 _ fs (mkRat p d.toNat) wr hk hn64 (H2.out.1.all hb) (H2.out.2.2.2.2.2.all hb) (H2.out.2.2.2.1.below hb) (HQ.out.ok k hk) (frR_bits' HOK.out.2))
  have HPE : pickR fs (fun k => decide (frR fs k ≤ mkRat p d.toNat)) n = pickR fs (lvQ fs p d) n := pick_congr (fun k hk => by
    have h1 := lvQ_le (k := k) (HQ.out.ok k hk) (Int.le_of_lt (HQ.out.pos k hk)) HOK.out.2 HOK.out.1
    cases hq : lvQ fs p d k with
    | true => exact decide_eq_true (h1.2 hq)
    | false => exact decide_eq_false (fun h => by rw [h1.1 h] at hq; cases hq))
  rw [HPE, HFO.out] at HS
  have HS2 := Lib.hid HS
  clear HS HPE hqe
  refine HS2.out.mono ?_
  rintro e w4 ⟨rfl, hb⟩
  have H4 := Lib.hid (And.intro (H2.out.2.1.all hb) (bthen H2.out.2.2.2.2.1 hb))
  clear hb x0 x1 x2 x3 x4
  obtain ⟨y0, y1, y2, y3, y4⟩ := H4.out.1
  go_wp2_with fail
  refine bodyPost_ret (v := .tuple #[.agg #[.int .i64 pp, .int .i64 qq], .bool b']) (by simp [results, Tryz.results49, go_sem, *]) rfl ⟨by rw [HFO.out], ?_⟩
  exact below_two H4.out.2 (by omega) _ _
set_option maxHeartbeats 1600000 in
theorem levelOf_any (a1 a2 : Option Addr) (n m c1 c2 : Nat) (vs fs : List Int) (v : Int) (w : World) (hn : n ≤ 1048576) (hm : m ≤ 1048576) (h1 : IsInts w a1 n vs) (h2 : IsInts w a2 (m * 2) fs) :
    Calls Tryz.prog 17 #[.agg #[.slice a1 n c1, .slice a2 m c2], .int .i64 v] w fun e w' => e = .returned (lrV vs fs n m (pickR fs (lvQ fs (chP vs fs n v).1 (chP vs fs n v).2) n)) ∧ Below w.heap.size w w' := by
  have hl := h1.1
  have hA : Below w.heap.size w ((w.alloc (.cells #[.slice a1 n c1, .slice a2 m c2] 29)).alloc (.cells #[.int .i64 0, .int .i64 0] 40)) := ((Below.refl _ w).alloc (Nat.le_refl _) _).alloc (by simp) _
  have hc0 : C2 ((w.alloc (.cells #[.slice a1 n c1, .slice a2 m c2] 29)).alloc (.cells #[.int .i64 0, .int .i64 0] 40)) w.heap.size (.slice a1 n c1) (.slice a2 m c2) := (C2.new w _ _ _).all ((Below.refl _ _).alloc (Nat.le_refl _) _)
  have hc1 : C2 ((w.alloc (.cells #[.slice a1 n c1, .slice a2 m c2] 29)).alloc (.cells #[.int .i64 0, .int .i64 0] 40)) (w.heap.size + 1) (.int .i64 0) (.int .i64 0) := by
    have := C2.new (w.alloc (.cells #[.slice a1 n c1, .slice a2 m c2] 29)) 40 (.int .i64 0) (.int .i64 0)
    rw [alloc_size] at this; exact this
  have H0 := Lib.hid (And.intro hc0 (And.intro hc1 (And.intro (h1.below hA) (And.intro (h2.below hA) hA))))
  have HV := Lib.hid (fun w h1 h2 => validLaw_any a1 a2 n m c1 c2 vs fs w hn hm h1 h2)
  clear hA hc0 hc1 h1 h2
  obtain ⟨ok, hok⟩ : ∃ ok, lawOk vs fs n m = ok := ⟨_, rfl⟩
  rw [hok] at HV
  have HQ := Lib.hid hok
  have HL := Lib.hid hl
  clear hok hl
  go_enter Tryz.func17, Tryz.ntmps17
  go_wp2_with fail
  obtain ⟨wA, hwA⟩ : ∃ w', ((w.alloc (.cells #[.slice a1 n c1, .slice a2 m c2] 29)).alloc (.cells #[.int .i64 0, .int .i64 0] 40)) = w' := ⟨_, rfl⟩
  rw [hwA] at H0 ⊢
  clear hwA
  refine (HV.out _ H0.out.2.2.1 H0.out.2.2.2.1).mono ?_
  rintro e w1 ⟨rfl, hb⟩
  have H1 := Lib.hid (And.intro (H0.out.1.all hb) (And.intro (H0.out.2.1.all hb) (And.intro (H0.out.2.2.1.below hb) (And.intro (H0.out.2.2.2.1.below hb) (bthen H0.out.2.2.2.2 hb)))))
  clear hb H0
  obtain ⟨x0, x1, x2, x3, x4⟩ := H1.out.1
  obtain ⟨y0, y1, y2, y3, y4⟩ := H1.out.2.1
  cases ok with
  | false =>
    have HC := Lib.hid (show lrV vs fs n m (pickR fs (lvQ fs (chP vs fs n v).1 (chP vs fs n v).2) n) = zeroF by unfold lrV; rw [HQ.out]; rfl)
    go_wp2_with fail
    refine bodyPost_ret (v := .tuple #[.agg #[.int .i64 0, .int .i64 0], .bool false]) (by simp [results, Tryz.results17, go_sem, *]) rfl ⟨by rw [HC.out]; rfl, ?_⟩
    exact below_two H1.out.2.2.2.2 (by omega) _ _
  | true =>
    obtain ⟨rfl, hq⟩ := lawQ_of HL.out HQ.out
    obtain ⟨p, q, b', hform⟩ := fracV_form' (pickR fs (lvQ fs (chP vs fs m v).1 (chP vs fs m v).2) m)
    have HC := Lib.hid (show lrV vs fs m m (pickR fs (lvQ fs (chP vs fs m v).1 (chP vs fs m v).2) m) = .tuple #[.agg #[.int .i64 p, .int .i64 q], .bool b'] by unfold lrV; rw [HQ.out, if_pos rfl, hform])
    have HS := Lib.hid (fun w h1 h2 => level_any a1 a2 m c1 c2 vs fs v w hq h1 h2)
    rw [hform] at HS
    clear hform hq
    go_wp2_with fail
    refine (HS.out _ H1.out.2.2.1 H1.out.2.2.2.1).mono ?_
    rintro e w2 ⟨rfl, hb⟩
    have H2 := Lib.hid (And.intro (H1.out.2.1.all hb) (bthen H1.out.2.2.2.2 hb))
    clear hb x0 x1 x2 x3 x4 y0 y1 y2 y3 y4
    obtain ⟨y0, y1, y2, y3, y4⟩ := H2.out.1
    go_wp2_with fail
    refine bodyPost_ret (v := .tuple #[.agg #[.int .i64 p, .int .i64 q], .bool b']) (by simp [results, Tryz.results17, go_sem, *]) rfl ⟨by rw [HC.out], ?_⟩
    exact below_two H2.out.2 (by omega) _ _
end Go.Proofs.YtaneocedklnajaaGreat

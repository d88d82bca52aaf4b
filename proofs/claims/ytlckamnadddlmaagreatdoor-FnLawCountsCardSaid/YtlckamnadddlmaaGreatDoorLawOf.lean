import Derived.Test.YtlckamnadddlmaaGreatDoorLawOX
import Derived.Test.YtlckamnadddlmaaGreatDoorAnyK
/- The law of counts among all: the program's lawOf. Conditions: few counts, all of them at most 10 to the power of 18, all too. -/
namespace Go.Proofs.YtlckamnadddlmaaGreatDoor
open Go.RowKit
set_option linter.unusedVariables false

set_option maxRecDepth 100000 in
set_option maxHeartbeats 3200000 in
theorem lawOf_any (first : Int) (a : Option Addr) (len cap : Nat) (cs : List Int) (all : Nat) (w : World) (hx : IsInts w a len cs) (hl : len ≤ 1000) (hf : -1000000 ≤ first ∧ first ≤ 1000000) (ha : 0 < all) (ha2 : all ≤ 1000000000000000000) (hc : ∀ i, i < len → cs.getD i 0 ≤ 1000000000000000000) :
    Calls Tryz.prog 26 #[.int .i64 first, .slice a len cap, .int .i64 (all : Nat)] w (RetLw w (lvT first cs len) (lfT cs all len)) := by
  have HX := Lib.hid (And.intro hx hc)
  have H0 := Lib.hid (lo_start w)
  obtain ⟨f1, f2⟩ := hf
  clear hx hc
  go_enter Tryz.func26, Tryz.ntmps26
  go_wp2
  obtain ⟨b, hb⟩ : ∃ b, w.heap.size + 1 = b := ⟨_, rfl⟩
  obtain ⟨r, hr⟩ : ∃ r, w.heap.size = r := ⟨_, rfl⟩
  rw [hb, hr] at H0 ⊢
  have HB := Lib.hid (And.intro hb hr)
  clear hb hr
  go_loopw [15] (fun i wr => ∃ (m n : Nat) (V C : Value), m ≤ len ∧ n ≤ m ∧ i = .int .i64 (m : Nat) ∧ Hid (n = (lvT first cs m).length ∧ LO w wr b [(r, .cells #[.slice none 0 0, .slice none 0 0] 29)] V C V C n n (lvT first cs m) (lfT cs all m))) (fun i _ => len - (intOf i).toNat)
  case atStart => exact ⟨0, 0, _, _, Nat.zero_le _, Nat.le_refl _, rfl, Lib.hid ⟨rfl, H0.out⟩⟩
  case round =>
    clear H0
    obtain ⟨m, n, V, C, hm, hnm, rfl, HL⟩ := hrel
    obtain ⟨av, cv, rfl⟩ := own_shape HL.out.2.val
    obtain ⟨ac, cc, rfl⟩ := own_shape HL.out.2.cha
    by_cases hlt : m < len
    · obtain ⟨b1, off, rfl, hcm⟩ := (HX.out.1.below HL.out.2.bel).at hlt
      have hm0 : (0:Int) ≤ (m:Int) := by omega
      have hmi : (m:Int) < (len:Int) := by omega
      have hc2 := HX.out.2 m hlt
      obtain ⟨c, hcz⟩ : ∃ c, cs.getD m 0 = c := ⟨_, rfl⟩
      rw [hcz] at hcm hc2
      by_cases hc0 : 0 < c
      · have hv1 : lvT first cs (m + 1) = lvT first cs m ++ [first + m] := by rw [lvT, hcz, if_pos hc0]
        have hf1 : lfT cs all (m + 1) = lfT cs all m ++ [(mkRat c all).num, ((mkRat c all).den : Nat)] := by rw [lfT, hcz, if_pos hc0]
        have hfit := fit_small (p := c) (q := all) ha (by omega) ha2
        have hsm := num_den_small (p := c) (q := all) ha (by omega) (by omega)
        have hfv := fracV_yes hfit
        have HQ := Lib.hid (fun (w : World) => quotient_any c all w (by omega) (by omega) (by omega) ha)
        obtain ⟨R, hRe⟩ : ∃ R, mkRat c all = R := ⟨_, rfl⟩
        rw [hRe] at hf1 hfit hsm hfv HQ
        obtain ⟨p, hp⟩ : ∃ p, R.num = p := ⟨_, rfl⟩
        obtain ⟨q, hq⟩ : ∃ q : Int, ((R.den : Nat) : Int) = q := ⟨_, rfl⟩
        rw [hp, hq] at hf1 hfv
        have HF := Lib.hid (And.intro hsm hfv)
        have HN := Lib.hid (And.intro hv1 hf1)
        clear hv1 hf1 hfit hsm hfv hRe hp hq hcz
        go_wp2_with fail
        refine (HQ.out _).mono ?_
        rintro e w2 ⟨a1, c1, a2, c2, rfl, hx1, hx2, hb⟩
        have H1 := Lib.hid (And.intro hx1 (And.intro hx2 (And.intro hb (HL.out.2.below hb))))
        clear hx1 hx2 hb
        go_wp2_with fail
        refine (fraction_any R a1 a2 c1 c2 _ H1.out.1 H1.out.2.1 HF.out.1.1 HF.out.1.2).mono ?_
        rintro e w3 ⟨rfl, hb3⟩
        rw [HF.out.2]
        have H2 := Lib.hid (H1.out.2.2.2.below hb3)
        clear hb3 H1
        go_wp2_with fail
        obtain ⟨wq, hwq⟩ : ∃ w', w3.alloc (.cells #[.int .i64 p, .int .i64 q] 44) = w' := ⟨_, rfl⟩
        have HQ2 := Lib.hid (H2.out.also (.cells #[.int .i64 p, .int .i64 q] 44))
        rw [hwq] at HQ2 ⊢
        obtain ⟨bf, hbf⟩ : ∃ bf, w3.heap.size = bf := ⟨_, rfl⟩
        rw [hbf] at HQ2 ⊢
        clear hwq hbf H2 HQ HF
        have HNm := Lib.hid HL.out.1
        clear HL hcm
        obtain ⟨q1, q2, q3, q4⟩ := HQ2.out.cells
        obtain ⟨e1, e2, e3, e4⟩ := pair_cells (HQ2.out.keep _ List.mem_cons_self).1
        have k1 : ∀ o, (wq.alloc o).cell? ⟨b, 0, none⟩ = some (.slice av n cv) := fun o => (HQ2.out.below (below_d1 wq o)).cells.1
        have k2 : ∀ o, (wq.alloc o).cell? ⟨b, 1, none⟩ = some (.slice ac n cc) := fun o => (HQ2.out.below (below_d1 wq o)).cells.2.1
        have k3 : ∀ o o', ((wq.alloc o).alloc o').cell? ⟨b, 0, none⟩ = some (.slice av n cv) := fun o o' => (HQ2.out.below (below_d2 wq o o')).cells.1
        have k4 : ∀ o o', ((wq.alloc o).alloc o').cell? ⟨b, 1, none⟩ = some (.slice ac n cc) := fun o o' => (HQ2.out.below (below_d2 wq o o')).cells.2.1
        have k5 : ∀ o, (wq.alloc o).cell? ⟨bf, 0, none⟩ = some (.int .i64 p) := fun o => (pair_cells ((HQ2.out.below (below_d1 wq o)).keep _ List.mem_cons_self).1).1
        have k6 : ∀ o, (wq.alloc o).cell? ⟨bf, 1, none⟩ = some (.int .i64 q) := fun o => (pair_cells ((HQ2.out.below (below_d1 wq o)).keep _ List.mem_cons_self).1).2.1
        have hwz : IntKind.i64.wrap (first + (m : Int)) = first + (m : Int) := IntWalk.i64_in _ (by omega)
        refine wp_region_any (by kernel_rfl) (any_of_K (k := 13) (S := fun w' => w'.cell? ⟨b, 0, none⟩ = some (.slice av n cv) ∧ w'.cell? ⟨b, 1, none⟩ = some (.slice ac n cc)) (T := fun w' => w'.cell? ⟨bf, 0, none⟩ = some (.int .i64 p) ∧ w'.cell? ⟨bf, 1, none⟩ = some (.int .i64 q)) _ _ _ _ ?_)
        have hS : wq.drew.cell? ⟨b, 0, none⟩ = some (.slice av n cv) ∧ wq.drew.cell? ⟨b, 1, none⟩ = some (.slice ac n cc) := ⟨q1, q2⟩
        have hT : wq.drew.cell? ⟨bf, 0, none⟩ = some (.int .i64 p) ∧ wq.drew.cell? ⟨bf, 1, none⟩ = some (.int .i64 q) := ⟨e1, e2⟩
        refine anyT_take (i := 0) (n := 15) (v := .pointer (some ⟨b, 0, none⟩)) rfl (by decide) (by kernel_rfl) (by kernel_rfl) (by kernel_rfl) (fun _ _ _ h => h) (Or.inl ⟨by kernel_rfl, fun w' hw => by kernel_rfl⟩) hS hT ?_
        refine anyT_take (i := 7) (n := 14) (v := .pointer (some ⟨b, 1, none⟩)) rfl (by decide) (by kernel_rfl) (by kernel_rfl) (by kernel_rfl) (fun _ _ _ h => h) (Or.inl ⟨by kernel_rfl, fun w' hw => by kernel_rfl⟩) hS hT ?_
        refine anyT_take (i := 2) (n := 13) (v := .int .i64 first) rfl (by decide) (by kernel_rfl) (by kernel_rfl) (by kernel_rfl) (fun _ _ _ h => h) (Or.inl ⟨by kernel_rfl, fun w' hw => by kernel_rfl⟩) hS hT ?_
        refine anyT_take (i := 3) (n := 12) (v := .int .i64 (m : Nat)) rfl (by decide) (by kernel_rfl) (by kernel_rfl) (by kernel_rfl) (fun _ _ _ h => h) (Or.inl ⟨by kernel_rfl, fun w' hw => by kernel_rfl⟩) hS hT ?_
        refine anyK_take (i := 1) (n := 11) (v := .slice av n cv) rfl rfl (by kernel_rfl) (by kernel_rfl) (by kernel_rfl) (by kernel_rfl) (by kernel_rfl) (fun _ _ _ h => h) (Or.inl ⟨by kernel_rfl, fun w' hw => by (obtain ⟨z1, z2⟩ := hw; go_simp)⟩) hS hT ?_
        refine anyK_take (i := 8) (n := 10) (v := .slice ac n cc) rfl rfl (by kernel_rfl) (by kernel_rfl) (by kernel_rfl) (by kernel_rfl) (by kernel_rfl) (fun _ _ _ h => h) (Or.inl ⟨by kernel_rfl, fun w' hw => by (obtain ⟨z1, z2⟩ := hw; go_simp)⟩) hS hT ?_
        refine anyT_take (i := 9) (n := 9) (v := .agg #[.int .i64 p, .int .i64 q]) rfl (by decide) (by kernel_rfl) (by kernel_rfl) (by kernel_rfl) (fun _ _ _ h => h) (Or.inl ⟨by kernel_rfl, fun w' hw => by (obtain ⟨z1, z2⟩ := hw; go_simp)⟩) hS hT ?_
        refine anyT_take (i := 4) (n := 8) (v := .int .i64 (first + m)) rfl (by decide) (by kernel_rfl) (by kernel_rfl) (by kernel_rfl) (fun _ _ _ h => h) (Or.inl ⟨by kernel_rfl, fun w' hw => by go_simp⟩) hS hT ?_
        have hbfb : bf ≠ b := (HQ2.out.keep _ List.mem_cons_self).2.2.2
        have hbfb2 : b ≠ bf := fun e => hbfb e.symm
        clear q1 q2 q3 q4 e1 e2 e3 e4 hS hT
        refine anyK_all (n := 7) (rs := [5, 10]) (by kernel_rfl) (by simp) (fun i hi => ?_)
        simp only [List.mem_cons, List.not_mem_nil, or_false] at hi
        rcases hi with rfl | rfl
        · skip
          refine wpOp_step rfl (fun K' hK => ?_)
          go_simp
          have HA := Lib.hid (HQ2.out.below (below_d1 wq (.cells #[.int .i64 (first + m)] 2)))
          refine hK _ _ ⟨fun _ _ => ⟨HA.out.cells.1, HA.out.cells.2.1⟩, ⟨(pair_cells (HA.out.keep (bf, (.cells #[.int .i64 p, .int .i64 q] 44)) (by simp)).1).1, (pair_cells (HA.out.keep (bf, (.cells #[.int .i64 p, .int .i64 q] 44)) (by simp)).1).2.1⟩, ?_⟩
          clear hK
          refine anyK_all (n := 6) (rs := [6, 10]) (by kernel_rfl) (by simp) (fun i hi => ?_)
          simp only [List.mem_cons, List.not_mem_nil, or_false] at hi
          rcases hi with rfl | rfl
          · skip
            refine wpOp_step rfl (fun K' hK => ?_)
            refine step_ap1 rfl (.tmp 30) (.tmp 34) 26 rfl w.heap.size 2 (.int .i64 0) 8 Tryz.underlying26 Tryz.infoI rfl _ n _ rfl HA.out.val _ (.int .i64 (first + m)) rfl (by go_simp) rfl (by omega) (by omega) HA.out.bel.size ?_
            intro v6 w6 hown hgrow hat
            obtain ⟨av6, cv6, rfl⟩ := own_shape hown
            have HB1 := Lib.hid (HA.out.pushV hown hgrow hat)
            clear hown hgrow hat
            refine hK _ _ ⟨fun _ _ => ⟨HB1.out.cells.1, HB1.out.cells.2.1⟩, ⟨(pair_cells (HB1.out.keep (bf, (.cells #[.int .i64 p, .int .i64 q] 44)) (by simp)).1).1, (pair_cells (HB1.out.keep (bf, (.cells #[.int .i64 p, .int .i64 q] 44)) (by simp)).1).2.1⟩, ?_⟩
            clear hK
            refine anyT_take (i := 12) (n := 5) (v := .pointer (some ⟨b, 0, none⟩)) rfl (by decide) (by kernel_rfl) (by kernel_rfl) (by kernel_rfl) (fun _ _ _ h => h) (Or.inl ⟨by kernel_rfl, fun w' hw => by kernel_rfl⟩) ⟨HB1.out.cells.1, HB1.out.cells.2.1⟩ ⟨(pair_cells (HB1.out.keep (bf, (.cells #[.int .i64 p, .int .i64 q] 44)) (by simp)).1).1, (pair_cells (HB1.out.keep (bf, (.cells #[.int .i64 p, .int .i64 q] 44)) (by simp)).1).2.1⟩ ?_
            refine anyK_all (n := 4) (rs := [10]) (by kernel_rfl) (by simp) (fun i hi => ?_)
            simp only [List.mem_cons, List.not_mem_nil, or_false] at hi
            obtain rfl := hi
            refine wpOp_step rfl (fun K' hK => ?_)
            go_simp
            have HC1 := Lib.hid (HB1.out.below ((Below.refl _ w6).alloc (Nat.le_refl _) (.cells #[.int .i64 p, .int .i64 q] 44)))
            refine hK _ _ ⟨fun _ _ => ⟨HC1.out.cells.1, HC1.out.cells.2.1⟩, ⟨(pair_cells (HC1.out.keep (bf, (.cells #[.int .i64 p, .int .i64 q] 44)) (by simp)).1).1, (pair_cells (HC1.out.keep (bf, (.cells #[.int .i64 p, .int .i64 q] 44)) (by simp)).1).2.1⟩, ?_⟩
            clear hK
            refine anyK_all (n := 3) (rs := [11]) (by kernel_rfl) (by simp) (fun i hi => ?_)
            simp only [List.mem_cons, List.not_mem_nil, or_false] at hi
            obtain rfl := hi
            refine wpOp_step rfl (fun K' hK => ?_)
            refine step_ap2 rfl (.tmp 37) (.tmp 39) 27 rfl w.heap.size 44 (.agg #[.int .i64 0, .int .i64 0]) 16 Tryz.underlying27 Tryz.infoFr rfl _ n _ rfl HC1.out.cha _ (.int .i64 p) (.int .i64 q) rfl (by go_simp) (by go_simp) rfl rfl (by omega) (by omega) HC1.out.bel.size ?_
            intro c6 w7 hown hgrow hat
            obtain ⟨ac6, cc6, rfl⟩ := own_shape hown
            have HD1 := Lib.hid (HC1.out.pushC hown hgrow hat)
            clear hown hgrow hat
            refine hK _ _ ⟨fun _ _ => ⟨HD1.out.cells.1, HD1.out.cells.2.1⟩, ⟨(pair_cells (HD1.out.keep (bf, (.cells #[.int .i64 p, .int .i64 q] 44)) (by simp)).1).1, (pair_cells (HD1.out.keep (bf, (.cells #[.int .i64 p, .int .i64 q] 44)) (by simp)).1).2.1⟩, ?_⟩
            clear hK
            obtain ⟨t1, t2, t3, t4⟩ := HD1.out.cells
            have hT2 := pair_cells (HD1.out.keep (bf, (.cells #[.int .i64 p, .int .i64 q] 44)) (by simp)).1
            have hTT : w7.cell? ⟨bf, 0, none⟩ = some (.int .i64 p) ∧ w7.cell? ⟨bf, 1, none⟩ = some (.int .i64 q) := ⟨hT2.1, hT2.2.1⟩
            have hTV : ∀ u, (w7.setCell ⟨b, 0, none⟩ u).cell? ⟨bf, 0, none⟩ = some (.int .i64 p) ∧ (w7.setCell ⟨b, 0, none⟩ u).cell? ⟨bf, 1, none⟩ = some (.int .i64 q) := fun u => ⟨by rw [World.cell?_setCell_other _ _ _ _ (fun e => hbfb2 (by injection e))]; exact hT2.1, by rw [World.cell?_setCell_other _ _ _ _ (fun e => hbfb2 (by injection e))]; exact hT2.2.1⟩
            have hTC : ∀ u v, ((w7.setCell ⟨b, 0, none⟩ u).setCell ⟨b, 1, none⟩ v).cell? ⟨bf, 0, none⟩ = some (.int .i64 p) ∧ ((w7.setCell ⟨b, 0, none⟩ u).setCell ⟨b, 1, none⟩ v).cell? ⟨bf, 1, none⟩ = some (.int .i64 q) := fun u v => ⟨by rw [World.cell?_setCell_other _ _ _ _ (fun e => hbfb2 (by injection e))]; exact (hTV u).1, by rw [World.cell?_setCell_other _ _ _ _ (fun e => hbfb2 (by injection e))]; exact (hTV u).2⟩
            refine anyK_all (n := 2) (rs := [13]) (by kernel_rfl) (by simp) (fun i hi => ?_)
            simp only [List.mem_cons, List.not_mem_nil, or_false] at hi
            obtain rfl := hi
            refine wpOp_step rfl (fun K' hK => ?_)
            go_simp
            refine hK _ _ ⟨fun h => absurd rfl h, hTV _, ?_⟩
            clear hK
            refine anyK_all (n := 1) (rs := [14]) (by kernel_rfl) (by simp) (fun i hi => ?_)
            simp only [List.mem_cons, List.not_mem_nil, or_false] at hi
            obtain rfl := hi
            refine wpOp_step rfl (fun K' hK => ?_)
            go_simp
            refine hK _ _ ⟨fun _ h => (by cases h), hTV _, ?_⟩
            clear hK
            refine anyK_all (n := 0) (rs := [15]) (by kernel_rfl) (by simp) (fun i hi => ?_)
            simp only [List.mem_cons, List.not_mem_nil, or_false] at hi
            obtain rfl := hi
            refine wpOp_step rfl (fun K' hK => ?_)
            go_simp
            refine hK _ _ ⟨fun _ h => (by cases h), hTC _ _, ?_⟩
            clear hK
            refine ⟨by kernel_rfl, ?_⟩
            have HF3 := Lib.hid (HD1.out.store)
            clear t1 t2 t3 t4 hT2 hTT hTV hTC
            go_wp2
            go_roundw
            case rel => exact ⟨m + 1, n + 1, _, _, by omega, by omega, by go_num, Lib.hid ⟨by rw [HN.out.1, List.length_append, ← HNm.out]; rfl, by rw [HN.out.1, HN.out.2]; exact HF3.out.less⟩⟩
            case measure => simp [intOf]; omega
          · skip
            refine wpOp_step rfl (fun K' hK => ?_)
            go_simp
            have HB1 := Lib.hid (HA.out.also (.cells #[.int .i64 p, .int .i64 q] 44))
            refine hK _ _ ⟨fun _ _ => ⟨HB1.out.cells.1, HB1.out.cells.2.1⟩, ⟨(pair_cells (HB1.out.keep (bf, (.cells #[.int .i64 p, .int .i64 q] 44)) (by simp)).1).1, (pair_cells (HB1.out.keep (bf, (.cells #[.int .i64 p, .int .i64 q] 44)) (by simp)).1).2.1⟩, ?_⟩
            clear hK
            refine anyK_all (n := 5) (rs := [6]) (by kernel_rfl) (by simp) (fun i hi => ?_)
            simp only [List.mem_cons, List.not_mem_nil, or_false] at hi
            obtain rfl := hi
            refine wpOp_step rfl (fun K' hK => ?_)
            refine step_ap1 rfl (.tmp 30) (.tmp 34) 26 rfl w.heap.size 2 (.int .i64 0) 8 Tryz.underlying26 Tryz.infoI rfl _ n _ rfl HB1.out.val _ (.int .i64 (first + m)) rfl (by go_simp) rfl (by omega) (by omega) HB1.out.bel.size ?_
            intro v6 w6 hown hgrow hat
            obtain ⟨av6, cv6, rfl⟩ := own_shape hown
            have HC1 := Lib.hid (HB1.out.pushV hown hgrow hat)
            clear hown hgrow hat
            refine hK _ _ ⟨fun _ _ => ⟨HC1.out.cells.1, HC1.out.cells.2.1⟩, ⟨(pair_cells (HC1.out.keep (bf, (.cells #[.int .i64 p, .int .i64 q] 44)) (by simp)).1).1, (pair_cells (HC1.out.keep (bf, (.cells #[.int .i64 p, .int .i64 q] 44)) (by simp)).1).2.1⟩, ?_⟩
            clear hK
            refine anyT_take (i := 12) (n := 4) (v := .pointer (some ⟨b, 0, none⟩)) rfl (by decide) (by kernel_rfl) (by kernel_rfl) (by kernel_rfl) (fun _ _ _ h => h) (Or.inl ⟨by kernel_rfl, fun w' hw => by kernel_rfl⟩) ⟨HC1.out.cells.1, HC1.out.cells.2.1⟩ ⟨(pair_cells (HC1.out.keep (bf, (.cells #[.int .i64 p, .int .i64 q] 44)) (by simp)).1).1, (pair_cells (HC1.out.keep (bf, (.cells #[.int .i64 p, .int .i64 q] 44)) (by simp)).1).2.1⟩ ?_
            refine anyK_all (n := 3) (rs := [11]) (by kernel_rfl) (by simp) (fun i hi => ?_)
            simp only [List.mem_cons, List.not_mem_nil, or_false] at hi
            obtain rfl := hi
            obtain ⟨g1, g2, _, _⟩ := pair_cells (HC1.out.keep _ List.mem_cons_self).1
            simp only [alloc_size, heap_drew] at g1 g2
            refine wpOp_step rfl (fun K' hK => ?_)
            refine step_ap2 rfl (.tmp 37) (.tmp 39) 27 rfl w.heap.size 44 (.agg #[.int .i64 0, .int .i64 0]) 16 Tryz.underlying27 Tryz.infoFr rfl _ n _ rfl HC1.out.cha _ (.int .i64 p) (.int .i64 q) rfl (by go_simp) (by go_simp) rfl rfl (by omega) (by omega) HC1.out.bel.size ?_
            intro c6 w7 hown hgrow hat
            obtain ⟨ac6, cc6, rfl⟩ := own_shape hown
            have HD1 := Lib.hid (HC1.out.pushC hown hgrow hat)
            clear hown hgrow hat
            refine hK _ _ ⟨fun _ _ => ⟨HD1.out.cells.1, HD1.out.cells.2.1⟩, ⟨(pair_cells (HD1.out.keep (bf, (.cells #[.int .i64 p, .int .i64 q] 44)) (by simp)).1).1, (pair_cells (HD1.out.keep (bf, (.cells #[.int .i64 p, .int .i64 q] 44)) (by simp)).1).2.1⟩, ?_⟩
            clear hK
            obtain ⟨t1, t2, t3, t4⟩ := HD1.out.cells
            have hT2 := pair_cells (HD1.out.keep (bf, (.cells #[.int .i64 p, .int .i64 q] 44)) (by simp)).1
            have hTT : w7.cell? ⟨bf, 0, none⟩ = some (.int .i64 p) ∧ w7.cell? ⟨bf, 1, none⟩ = some (.int .i64 q) := ⟨hT2.1, hT2.2.1⟩
            have hTV : ∀ u, (w7.setCell ⟨b, 0, none⟩ u).cell? ⟨bf, 0, none⟩ = some (.int .i64 p) ∧ (w7.setCell ⟨b, 0, none⟩ u).cell? ⟨bf, 1, none⟩ = some (.int .i64 q) := fun u => ⟨by rw [World.cell?_setCell_other _ _ _ _ (fun e => hbfb2 (by injection e))]; exact hT2.1, by rw [World.cell?_setCell_other _ _ _ _ (fun e => hbfb2 (by injection e))]; exact hT2.2.1⟩
            have hTC : ∀ u v, ((w7.setCell ⟨b, 0, none⟩ u).setCell ⟨b, 1, none⟩ v).cell? ⟨bf, 0, none⟩ = some (.int .i64 p) ∧ ((w7.setCell ⟨b, 0, none⟩ u).setCell ⟨b, 1, none⟩ v).cell? ⟨bf, 1, none⟩ = some (.int .i64 q) := fun u v => ⟨by rw [World.cell?_setCell_other _ _ _ _ (fun e => hbfb2 (by injection e))]; exact (hTV u).1, by rw [World.cell?_setCell_other _ _ _ _ (fun e => hbfb2 (by injection e))]; exact (hTV u).2⟩
            refine anyK_all (n := 2) (rs := [13]) (by kernel_rfl) (by simp) (fun i hi => ?_)
            simp only [List.mem_cons, List.not_mem_nil, or_false] at hi
            obtain rfl := hi
            refine wpOp_step rfl (fun K' hK => ?_)
            go_simp
            refine hK _ _ ⟨fun h => absurd rfl h, hTV _, ?_⟩
            clear hK
            refine anyK_all (n := 1) (rs := [14]) (by kernel_rfl) (by simp) (fun i hi => ?_)
            simp only [List.mem_cons, List.not_mem_nil, or_false] at hi
            obtain rfl := hi
            refine wpOp_step rfl (fun K' hK => ?_)
            go_simp
            refine hK _ _ ⟨fun _ h => (by cases h), hTV _, ?_⟩
            clear hK
            refine anyK_all (n := 0) (rs := [15]) (by kernel_rfl) (by simp) (fun i hi => ?_)
            simp only [List.mem_cons, List.not_mem_nil, or_false] at hi
            obtain rfl := hi
            refine wpOp_step rfl (fun K' hK => ?_)
            go_simp
            refine hK _ _ ⟨fun _ h => (by cases h), hTC _ _, ?_⟩
            clear hK
            refine ⟨by kernel_rfl, ?_⟩
            have HF3 := Lib.hid (HD1.out.store)
            clear t1 t2 t3 t4 hT2 hTT hTV hTC
            go_wp2
            go_roundw
            case rel => exact ⟨m + 1, n + 1, _, _, by omega, by omega, by go_num, Lib.hid ⟨by rw [HN.out.1, List.length_append, ← HNm.out]; rfl, by rw [HN.out.1, HN.out.2]; exact HF3.out.less.less⟩⟩
            case measure => simp [intOf]; omega
        · skip
          refine wpOp_step rfl (fun K' hK => ?_)
          go_simp
          have HA := Lib.hid ((HQ2.out.below (Below.refl _ wq).drew).also (.cells #[.int .i64 p, .int .i64 q] 44))
          refine hK _ _ ⟨fun _ _ => ⟨HA.out.cells.1, HA.out.cells.2.1⟩, ⟨(pair_cells (HA.out.keep (bf, (.cells #[.int .i64 p, .int .i64 q] 44)) (by simp)).1).1, (pair_cells (HA.out.keep (bf, (.cells #[.int .i64 p, .int .i64 q] 44)) (by simp)).1).2.1⟩, ?_⟩
          clear hK
          refine anyK_all (n := 6) (rs := [5]) (by kernel_rfl) (by simp) (fun i hi => ?_)
          simp only [List.mem_cons, List.not_mem_nil, or_false] at hi
          obtain rfl := hi
          refine wpOp_step rfl (fun K' hK => ?_)
          go_simp
          have HB1 := Lib.hid (HA.out.below ((Below.refl _ _).alloc (Nat.le_refl _) (.cells #[.int .i64 (first + m)] 2)))
          refine hK _ _ ⟨fun _ _ => ⟨HB1.out.cells.1, HB1.out.cells.2.1⟩, ⟨(pair_cells (HB1.out.keep (bf, (.cells #[.int .i64 p, .int .i64 q] 44)) (by simp)).1).1, (pair_cells (HB1.out.keep (bf, (.cells #[.int .i64 p, .int .i64 q] 44)) (by simp)).1).2.1⟩, ?_⟩
          clear hK
          refine anyK_all (n := 5) (rs := [6]) (by kernel_rfl) (by simp) (fun i hi => ?_)
          simp only [List.mem_cons, List.not_mem_nil, or_false] at hi
          obtain rfl := hi
          refine wpOp_step rfl (fun K' hK => ?_)
          refine step_ap1 rfl (.tmp 30) (.tmp 34) 26 rfl w.heap.size 2 (.int .i64 0) 8 Tryz.underlying26 Tryz.infoI rfl _ n _ rfl HB1.out.val _ (.int .i64 (first + m)) rfl (by go_simp) rfl (by omega) (by omega) HB1.out.bel.size ?_
          intro v6 w6 hown hgrow hat
          obtain ⟨av6, cv6, rfl⟩ := own_shape hown
          have HC1 := Lib.hid (HB1.out.pushV hown hgrow hat)
          clear hown hgrow hat
          refine hK _ _ ⟨fun _ _ => ⟨HC1.out.cells.1, HC1.out.cells.2.1⟩, ⟨(pair_cells (HC1.out.keep (bf, (.cells #[.int .i64 p, .int .i64 q] 44)) (by simp)).1).1, (pair_cells (HC1.out.keep (bf, (.cells #[.int .i64 p, .int .i64 q] 44)) (by simp)).1).2.1⟩, ?_⟩
          clear hK
          refine anyT_take (i := 12) (n := 4) (v := .pointer (some ⟨b, 0, none⟩)) rfl (by decide) (by kernel_rfl) (by kernel_rfl) (by kernel_rfl) (fun _ _ _ h => h) (Or.inl ⟨by kernel_rfl, fun w' hw => by kernel_rfl⟩) ⟨HC1.out.cells.1, HC1.out.cells.2.1⟩ ⟨(pair_cells (HC1.out.keep (bf, (.cells #[.int .i64 p, .int .i64 q] 44)) (by simp)).1).1, (pair_cells (HC1.out.keep (bf, (.cells #[.int .i64 p, .int .i64 q] 44)) (by simp)).1).2.1⟩ ?_
          refine anyK_all (n := 3) (rs := [11]) (by kernel_rfl) (by simp) (fun i hi => ?_)
          simp only [List.mem_cons, List.not_mem_nil, or_false] at hi
          obtain rfl := hi
          obtain ⟨g1, g2, _, _⟩ := pair_cells (HC1.out.keep _ List.mem_cons_self).1
          simp only [heap_drew] at g1 g2
          refine wpOp_step rfl (fun K' hK => ?_)
          refine step_ap2 rfl (.tmp 37) (.tmp 39) 27 rfl w.heap.size 44 (.agg #[.int .i64 0, .int .i64 0]) 16 Tryz.underlying27 Tryz.infoFr rfl _ n _ rfl HC1.out.cha _ (.int .i64 p) (.int .i64 q) rfl (by go_simp) (by go_simp) rfl rfl (by omega) (by omega) HC1.out.bel.size ?_
          intro c6 w7 hown hgrow hat
          obtain ⟨ac6, cc6, rfl⟩ := own_shape hown
          have HD1 := Lib.hid (HC1.out.pushC hown hgrow hat)
          clear hown hgrow hat
          refine hK _ _ ⟨fun _ _ => ⟨HD1.out.cells.1, HD1.out.cells.2.1⟩, ⟨(pair_cells (HD1.out.keep (bf, (.cells #[.int .i64 p, .int .i64 q] 44)) (by simp)).1).1, (pair_cells (HD1.out.keep (bf, (.cells #[.int .i64 p, .int .i64 q] 44)) (by simp)).1).2.1⟩, ?_⟩
          clear hK
          obtain ⟨t1, t2, t3, t4⟩ := HD1.out.cells
          have hT2 := pair_cells (HD1.out.keep (bf, (.cells #[.int .i64 p, .int .i64 q] 44)) (by simp)).1
          have hTT : w7.cell? ⟨bf, 0, none⟩ = some (.int .i64 p) ∧ w7.cell? ⟨bf, 1, none⟩ = some (.int .i64 q) := ⟨hT2.1, hT2.2.1⟩
          have hTV : ∀ u, (w7.setCell ⟨b, 0, none⟩ u).cell? ⟨bf, 0, none⟩ = some (.int .i64 p) ∧ (w7.setCell ⟨b, 0, none⟩ u).cell? ⟨bf, 1, none⟩ = some (.int .i64 q) := fun u => ⟨by rw [World.cell?_setCell_other _ _ _ _ (fun e => hbfb2 (by injection e))]; exact hT2.1, by rw [World.cell?_setCell_other _ _ _ _ (fun e => hbfb2 (by injection e))]; exact hT2.2.1⟩
          have hTC : ∀ u v, ((w7.setCell ⟨b, 0, none⟩ u).setCell ⟨b, 1, none⟩ v).cell? ⟨bf, 0, none⟩ = some (.int .i64 p) ∧ ((w7.setCell ⟨b, 0, none⟩ u).setCell ⟨b, 1, none⟩ v).cell? ⟨bf, 1, none⟩ = some (.int .i64 q) := fun u v => ⟨by rw [World.cell?_setCell_other _ _ _ _ (fun e => hbfb2 (by injection e))]; exact (hTV u).1, by rw [World.cell?_setCell_other _ _ _ _ (fun e => hbfb2 (by injection e))]; exact (hTV u).2⟩
          refine anyK_all (n := 2) (rs := [13]) (by kernel_rfl) (by simp) (fun i hi => ?_)
          simp only [List.mem_cons, List.not_mem_nil, or_false] at hi
          obtain rfl := hi
          refine wpOp_step rfl (fun K' hK => ?_)
          go_simp
          refine hK _ _ ⟨fun h => absurd rfl h, hTV _, ?_⟩
          clear hK
          refine anyK_all (n := 1) (rs := [14]) (by kernel_rfl) (by simp) (fun i hi => ?_)
          simp only [List.mem_cons, List.not_mem_nil, or_false] at hi
          obtain rfl := hi
          refine wpOp_step rfl (fun K' hK => ?_)
          go_simp
          refine hK _ _ ⟨fun _ h => (by cases h), hTV _, ?_⟩
          clear hK
          refine anyK_all (n := 0) (rs := [15]) (by kernel_rfl) (by simp) (fun i hi => ?_)
          simp only [List.mem_cons, List.not_mem_nil, or_false] at hi
          obtain rfl := hi
          refine wpOp_step rfl (fun K' hK => ?_)
          go_simp
          refine hK _ _ ⟨fun _ h => (by cases h), hTC _ _, ?_⟩
          clear hK
          refine ⟨by kernel_rfl, ?_⟩
          have HF3 := Lib.hid (HD1.out.store)
          clear t1 t2 t3 t4 hT2 hTT hTV hTC
          go_wp2
          go_roundw
          case rel => exact ⟨m + 1, n + 1, _, _, by omega, by omega, by go_num, Lib.hid ⟨by rw [HN.out.1, List.length_append, ← HNm.out]; rfl, by rw [HN.out.1, HN.out.2]; exact HF3.out.less.less⟩⟩
          case measure => simp [intOf]; omega
      · have hv1 : lvT first cs (m + 1) = lvT first cs m := by rw [lvT, hcz, if_neg hc0]
        have hf1 : lfT cs all (m + 1) = lfT cs all m := by rw [lfT, hcz, if_neg hc0]
        have HN := Lib.hid (And.intro hv1 hf1)
        clear hv1 hf1 hcz
        go_wp2
        go_roundw
        case rel => exact ⟨m + 1, n, _, _, by omega, by omega, by go_num, Lib.hid (by rw [HN.out.1, HN.out.2]; exact HL.out)⟩
        case measure => simp [intOf]; omega
    · obtain rfl : m = len := by omega
      obtain ⟨q1, q2, q3, q4⟩ := HL.out.2.cells
      obtain ⟨r1, r2, r3, r4⟩ := pair_cells (HL.out.2.keep _ List.mem_cons_self).1
      have HG := Lib.hid (HL.out.2.give (by rw [← HB.out.2]; exact Nat.le_refl _) HL.out.1 HL.out.1)
      clear HL
      go_wp2_with fail
      refine bodyPost_ret (v := .agg #[.slice av n cv, .slice ac n cc]) (by simp [results, Tryz.results26, go_sem, *]) rfl ⟨_, _, rfl, HG.out.1, HG.out.2⟩
end Go.Proofs.YtlckamnadddlmaaGreatDoor

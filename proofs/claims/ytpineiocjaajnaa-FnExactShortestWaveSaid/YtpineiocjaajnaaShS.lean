import Derived.Test.YtpineiocjaajnaaVecS
import Derived.Test.YtpineiocjaajnaaShP
/- The reference's shortest point. Condition: the congruence is valid and the dimension is 2 or 3. -/
namespace Go.Proofs.Ytpineiocjaajnaa
open Go.RowKit
set_option linter.unusedVariables false

theorem Try.infoLL : (Try.prog.info? 24).map (fun i => (i.zero, i.size, i.bytes)) = some (some (.slice none 0 0), 1, 24) := by kernel_rfl
theorem ll_one (W : World) (x : Int) : IsLL ((W.alloc (.cells #[.int .i64 x] 2)).alloc (.cells #[.slice (some ⟨W.heap.size, 0, none⟩) 1 1] 24)) (some ⟨W.heap.size + 1, 0, none⟩) 1 [[x]] ∧ Below W.heap.size W ((W.alloc (.cells #[.int .i64 x] 2)).alloc (.cells #[.slice (some ⟨W.heap.size, 0, none⟩) 1 1] 24)) := by
  have hA1 := (Below.refl _ W).alloc (Nat.le_refl _) (.cells #[.int .i64 x] 2)
  have hI1 := ints_one W 2 x
  have hA2 := (Below.refl _ (W.alloc (.cells #[.int .i64 x] 2))).alloc (Nat.le_refl _) (.cells #[.slice (some ⟨W.heap.size, 0, none⟩) 1 1] 24)
  refine ⟨⟨rfl, fun j hj => ?_⟩, bthen hA1 hA2⟩
  obtain rfl : j = 0 := by omega
  refine ⟨_, _, some ⟨W.heap.size, 0, none⟩, 1, rfl, ?_, hI1.below hA2⟩
  have h := heap_at_new (W.alloc (.cells #[.int .i64 x] 2)) (.cells #[.slice (some ⟨W.heap.size, 0, none⟩) 1 1] 24)
  rw [alloc_size] at h
  simp only [World.cell?, h]; rfl
set_option maxRecDepth 100000 in
set_option maxHeartbeats 1600000 in
theorem l03Point_any (b3 : Nat) (m a ad : Int) (D : Nat) (w : World) (hm : 2 ≤ m ∧ m ≤ 100000) (ha : 0 ≤ a ∧ a < m) (hD : D = 2 ∨ D = 3) (hg : G3 w b3 m a ad) :
    Calls Try.prog 27 #[.pointer (some ⟨b3, 0, none⟩), .int .i64 (D : Nat)] w fun e w' => ∃ c aa cc, e = .returned (.slice aa D cc) ∧ IsInts w' aa D c ∧ Below w.heap.size w w' ∧ BestOf (IsPt a m D) c := by
  have HG := Lib.hid hg
  have m0 : ¬ m = 0 := by omega
  have m1 : ¬ m = -1 := by omega
  have mb : (m == 0) = false := by simpa using m0
  have hmm : m * m ≤ 10000000000 := Int.mul_le_mul (b := m) (d := 100000) (a := m) (c := 100000) (by omega) (by omega) (by omega) (by omega)
  have HMM := Lib.hid hmm
  have hnegm : IntKind.i64.wrap (-m) = -m := IntWalk.i64_in _ (by omega)
  obtain ⟨y0, y1, y2, y3⟩ := hg
  clear hmm
  go_enter Try.func27, Try.ntmps27
  go_wp2_with fail
  go_loopw [7, 6] (fun v7 v6 wr => ∃ (x : Nat) (c : List Int) (ab : Option Addr) (nb cb : Nat), v7 = .int .i64 (x : Nat) ∧ x ≤ 100001 ∧ v6 = .slice ab nb cb ∧ Hid (c.length = nb) ∧ Hid (IsInts wr ab nb c) ∧ Hid (Below w.heap.size w wr) ∧ Hid (PtR a m D c x) ∧ Hid (c = [] ∨ 1 ≤ x) ∧ Hid (SmL c)) (fun v7 _ _ => 100010 - (intOf v7).toNat)
  case atStart => exact ⟨0, [], _, 0, 0, rfl, by omega, rfl, Lib.hid rfl, Lib.hid IsInts.nil, Lib.hid ((Below.refl _ w).alloc (Nat.le_refl _) _), Lib.hid (Or.inl ⟨rfl, rfl⟩), Lib.hid (Or.inl rfl), Lib.hid ⟨by simp, fun j => by simp⟩⟩
  case round =>
    obtain ⟨x, c, ab, nb, cb, rfl, hx1, rfl, HNB, HCR, HBW, HPR, HCX, HSC⟩ := hrel
    have hx0 : (0 : Int) ≤ (x : Int) := by omega
    by_cases hc0 : c = []
    · have HX0 := Lib.hid (show (x : Int) = 0 by
        rcases HPR.out with ⟨h, _⟩ | ⟨h, _⟩
        · omega
        · exact absurd hc0 (by intro e; have := h.len; rw [e] at this; simp at this; omega))
      have hnb : nb = 0 := by rw [← HNB.out, hc0]; rfl
      have hni : (nb : Int) = 0 := by omega
      have hnbb : ((nb : Int) == 0) = true := by rw [hni]; rfl
      have hxb : ((x : Int) == 0) = true := by rw [HX0.out]; rfl
      have HC0 := Lib.hid (show (c = [] ∨ IsPt a m D c) ∧ c.length = nb ∧ SmL c from ⟨Or.inl hc0, HNB.out, HSC.out⟩)
      clear hc0 hnb
      go_upto_region 7 with fail
      have HLB := Lib.hid (ll_one wr (x : Int))
      obtain ⟨w1, hw1⟩ : ∃ y, (wr.alloc (.cells #[.int .i64 (x : Nat)] 2)).alloc (.cells #[.slice (some ⟨wr.heap.size, 0, none⟩) 1 1] 24) = y := ⟨_, rfl⟩
      rw [hw1] at HLB ⊢
      obtain ⟨bl1, hbl1⟩ : ∃ b, wr.heap.size + 1 = b := ⟨_, rfl⟩
      rw [hbl1] at HLB ⊢
      have HLL0 := Lib.hid (show IsLL w1 (some ⟨bl1, 0, none⟩) 1 (rL a m (x : Int) 0) from HLB.out.1)
      have HBW1 := Lib.hid (show Below w.heap.size w w1 from bthen HBW.out HLB.out.2)
      have HCR1 := Lib.hid (show IsInts w1 ab nb c from (HCR.out).below HLB.out.2)
      have HG3 := Lib.hid (HG.out.all HBW1.out)
      clear hw1 hbl1 HLB
      go_wp2_with fail
      go_loopw [10, 9, 8] (fun v10 v9 v8 wr => ∃ (k : Nat) (p : Int) (al : Option Addr) (nl cll : Nat), v10 = .int .i64 ((k + 1 : Nat) : Int) ∧ v9 = .int .i64 p ∧ v8 = .slice al nl cll ∧ k + 1 ≤ D ∧ Hid (p = pwM a m k) ∧ Hid (IsLL wr al nl (rL a m (x : Int) k)) ∧ Hid (Below w1.heap.size w1 wr)) (fun v10 _ _ _ => 10 - (intOf v10).toNat)
      case atStart => exact ⟨0, 1, _, 1, 1, rfl, rfl, rfl, by omega, Lib.hid rfl, HLL0, Lib.hid (Below.refl _ _)⟩
      case round =>
        clear HLL0
        obtain ⟨k, p, al, nl, cll, rfl, rfl, rfl, hkD, HP, HLL, HB12⟩ := hrel
        by_cases hkd : k + 1 < D
        · have hki : ((k + 1 : Nat) : Int) < (D : Int) := by omega
          have hpb : 0 ≤ p ∧ p < m := by rw [HP.out]; exact pwM_bd (by omega) k
          have hpa : 0 ≤ p * a ∧ p * a ≤ 10000000000 := ⟨Int.mul_nonneg hpb.1 (by omega), Int.mul_le_mul (b := a) (d := 100000) (a := p) (c := 100000) (by omega) (by omega) (by omega) (by omega)⟩
          have hp2 : (p * a).tmod m = pwM a m (k + 1) := by rw [Int.tmod_eq_emod_of_nonneg hpa.1, HP.out]; rfl
          have hp2b := pwM_bd (a := a) (m := m) (by omega) (k + 1)
          obtain ⟨p2, hp2e⟩ : ∃ p2, pwM a m (k + 1) = p2 := ⟨_, rfl⟩
          rw [hp2e] at hp2 hp2b
          have HP2 := Lib.hid (show p2 = pwM a m (k + 1) from hp2e.symm)
          obtain ⟨t1, ht1⟩ : ∃ t, p * a = t := ⟨_, rfl⟩
          rw [ht1] at hpa hp2
          have ht1w : IntKind.i64.wrap t1 = t1 := IntWalk.i64_in _ (by omega)
          have hx2 : (x : Int) ≤ 200000 := by omega
          have hpx : 0 ≤ p2 * (x : Int) ∧ p2 * (x : Int) ≤ 10000000000 * 2 := ⟨Int.mul_nonneg hp2b.1 hx0, Int.mul_le_mul (b := (x : Int)) (d := 200000) (a := p2) (c := 100000) (by omega) (by omega) hx0 (by omega)⟩
          obtain ⟨t2, ht2⟩ : ∃ t, p2 * (x : Int) = t := ⟨_, rfl⟩
          rw [ht2] at hpx
          have ht2w : IntKind.i64.wrap t2 = t2 := IntWalk.i64_in _ (by omega)
          have HT2 := Lib.hid ht2
          have hk1w : IntKind.i64.wrap (((k + 1 : Nat) : Int) + 1) = ((k + 1 + 1 : Nat) : Int) := by rw [IntWalk.i64_in _ (by omega)]; omega
          have hnl9 : nl ≤ 9 := by
            have h1 := (rL_len (a := a) (m := m) (x := (x : Int)) k).2
            rw [HLL.out.1] at h1
            have : 3 ^ k ≤ 3 ^ 2 := Nat.pow_le_pow_right (by omega) (by omega)
            omega
          obtain ⟨w2, hw2⟩ : ∃ x, x = wr := ⟨_, rfl⟩
          subst hw2
          obtain ⟨y0, y1, y2, y3⟩ := HG3.out.all HB12.out
          have HGL00 := Lib.hid (GLL.start w2)
          obtain ⟨z0, z1, z2, z3⟩ := (HG3.out.all HB12.out).all HGL00.out.bel
          clear hp2e
          go_wp2_with fail
          refine (two_any t2 m _ (by omega) (by omega)).mono ?_
          rintro e w4 ⟨c12, rfl, hi4, hb4⟩
          have hA3 := (Below.refl _ w4).alloc (Nat.le_refl _) (.cells #[.int .i64 0, .int .i64 (-m), .int .i64 m] 2)
          have HTT0 := Lib.hid (ints_three w4 2 0 (-m) m)
          have HGL0 := Lib.hid (show GLL w2 _ _ (rN (rL a m (x : Int) k) [0, -m, m] 0) by rw [rN_zero]; exact (HGL00.out.ret hb4).ret hA3)
          have HNB0 := Lib.hid (show ∀ g, (Value.slice (some ⟨w2.heap.size, 0, none⟩) 0 0).ownBlock = some g → g < (w4.alloc (.cells #[.int .i64 0, .int .i64 (-m), .int .i64 m] 2)).heap.size ∧ g ≠ w4.heap.size from fun g e => by
            injection e with e
            have h1 := hb4.size
            have h2 := hA3.size
            have h3 : w2.heap.size < (w2.alloc (.cells #[] 24)).heap.size := by simp
            have e2 : w2.heap.size = g := e
            omega)
          have HT := Lib.hid (show rTwo a m (x : Int) (k + 1) = [0, -m, m] by unfold rTwo; rw [if_pos HX0.out])
          have HTL := Lib.hid (show ([0, -m, m] : List Int).length = 3 from rfl)
          have hnt3 : 3 ≤ 3 := Nat.le_refl 3
          go_upto_region 16 with fail
          obtain ⟨w5a, hw5a⟩ : ∃ y, w4.alloc (.cells #[.int .i64 0, .int .i64 (-m), .int .i64 m] 2) = y := ⟨_, rfl⟩
          obtain ⟨gT, hgT⟩ : ∃ g, w4.heap.size = g := ⟨_, rfl⟩
          obtain ⟨T, hT⟩ : ∃ T, ([0, -m, m] : List Int) = T := ⟨_, rfl⟩
          rw [hw5a] at HTT0 HGL0 HNB0 ⊢
          rw [hgT] at HTT0 HNB0 ⊢
          rw [hT] at HTT0 HGL0 HT HTL
          clear hi4 hb4 hA3 hw5a hgT hT
          have HL0 := Lib.hid (fun l hl => (rL_try (a := a) (m := m) (x := (x : Int)) k l hl).len)
          have HLS0 := Lib.hid (fun l hl => rL_sm (a := a) (m := m) (x := (x : Int)) (k := k) (by omega) (by omega) (by omega) (l := l) hl)
          obtain ⟨L, hL⟩ : ∃ L, rL a m (x : Int) k = L := ⟨_, rfl⟩
          rw [hL] at HLL HL0 HLS0 HGL0
          have HL := Lib.hid hL
          have HKL := Lib.hid (show ∀ i, i < nl → (L.getD i []).length = k + 1 from fun i hi => HL0.out _ (by rw [List.getD, List.getElem?_eq_getElem (show i < L.length by rw [HLL.out.1]; exact hi)]; exact List.getElem_mem _))
          have HLSM := Lib.hid (show ∀ i, i < nl → SmL (L.getD i []) from fun i hi => HLS0.out _ (by rw [List.getD, List.getElem?_eq_getElem (show i < L.length by rw [HLL.out.1]; exact hi)]; exact List.getElem_mem _))
          clear hL HL0 HLS0 y0 y1 y2 y3 z0 z1 z2 z3 ht1 ht2
          go_wp2_with fail
          go_loopw [13, 11] (fun v13 v11 wr => ∃ (i : Nat) (s : Option Addr) (c n : Nat), i ≤ nl ∧ v13 = .int .i64 (i : Nat) ∧ v11 = .slice s n c ∧ n ≤ 1000 ∧ Hid ((rN L T i).length = n) ∧ Hid (GLL w2 wr (.slice s n c) (rN L T i)) ∧ Hid (IsInts wr (some ⟨gT, 0, none⟩) 3 T) ∧ Hid (∀ g, (Value.slice s n c).ownBlock = some g → g < wr.heap.size ∧ g ≠ gT)) (fun v13 _ _ => nl - (intOf v13).toNat)
          case atStart => exact ⟨0, _, _, 0, Nat.zero_le _, rfl, rfl, by omega, Lib.hid (by rw [rN_zero]; rfl), HGL0, HTT0, HNB0⟩
          case round =>
            clear HGL0 HTT0 HNB0
            obtain ⟨i, s, c, n, hi, rfl, rfl, hn, HRL, HGL, HTT, HOB⟩ := hrel
            by_cases hil : i < nl
            · have hii : (i : Int) < (nl : Int) := by omega
              have hi0 : (0 : Int) ≤ (i : Int) := by omega
              have HRM0 := Lib.hid (rM_zero L T i)
              have HGL1 := Lib.hid (show GLL w2 wr (.slice s n c) (rM L T i 0) by rw [HRM0.out]; exact HGL.out)
              have HRL1 := Lib.hid (show (rM L T i 0).length = n by rw [HRM0.out]; exact HRL.out)
              clear HGL HRL
              go_wp2_with fail
              go_loopw [14, 11] (fun v14 v11 wr => ∃ (j : Nat) (s : Option Addr) (c n : Nat), j ≤ 3 ∧ v14 = .int .i64 (j : Nat) ∧ v11 = .slice s n c ∧ n ≤ 1000 ∧ Hid ((rM L T i j).length = n) ∧ Hid (GLL w2 wr (.slice s n c) (rM L T i j)) ∧ Hid (IsInts wr (some ⟨gT, 0, none⟩) 3 T) ∧ Hid (∀ g, (Value.slice s n c).ownBlock = some g → g < wr.heap.size ∧ g ≠ gT)) (fun v14 _ _ => 3 - (intOf v14).toNat)
              case atStart => exact ⟨0, s, c, n, Nat.zero_le _, rfl, rfl, hn, HRL1, HGL1, HTT, HOB⟩
              case round =>
                clear HGL1 HRL1 HTT HOB hn
                obtain ⟨j, s, c, n, hj, rfl, rfl, hn, HRL, HGL, HTT, HOBB⟩ := hrel
                by_cases hjt : j < 3
                · have hji : (j : Int) < (3 : Int) := by omega
                  have hj0 : (0 : Int) ≤ (j : Int) := by omega
                  have HOB := Lib.hid (fun g e => (HOBB.out g e).1)
                  have HNT := Lib.hid (fun g e => (HOBB.out g e).2)
                  obtain ⟨gl, offl, aj, cl, e7, hcl, hli⟩ := HLL.out.2 i hil
                  subst e7
                  have hkl := HKL.out i hil
                  have hsm := HLSM.out
                  obtain ⟨bl, ol, e8, _⟩ := hli.at (show 0 < (L.getD i []).length by omega)
                  subst e8
                  obtain ⟨b', o', e5, hct⟩ := HTT.out.at hjt
                  simp only [Option.some.injEq, Addr.mk.injEq] at e5
                  obtain ⟨rfl, rfl, _⟩ := e5
                  have HRS0 := Lib.hid (rM_succ (L := L) (T := T) (i := i) (j := j) (by rw [HTL.out]; exact hjt))
                  have HLI0 := Lib.hid (hli.below HGL.out.bel)
                  have HCL2 := Lib.hid hcl
                  have HCL := Lib.hid ((HGL.out.bel.cell (p := ⟨gl, offl + i, none⟩) (World.block_lt_of_cell? w2 _ hcl)).trans hcl)
                  have hbn : n ≤ 900 := by
                    have h1 := rM_len (L := L) (T := T) (i := i) (j := j) (by rw [HLL.out.1]; omega) (by rw [HTL.out]; omega)
                    rw [HRL.out, HTL.out] at h1
                    have : i * 3 ≤ 9 * 3 := Nat.mul_le_mul (by omega) (by omega)
                    omega
                  obtain ⟨y, hy⟩ : ∃ y, T.getD j 0 = y := ⟨_, rfl⟩
                  rw [Nat.zero_add] at hct
                  rw [hy] at hct HRS0
                  have HY := Lib.hid hy
                  have HCT := Lib.hid hct
                  obtain ⟨li, hlie⟩ : ∃ li, L.getD i [] = li := ⟨_, rfl⟩
                  rw [hlie] at hkl HRS0 HLI0 HCL HCL2
                  obtain ⟨kk, hkk⟩ : ∃ kk, li.length = kk := ⟨_, rfl⟩
                  rw [hkk] at hkl HLI0 HCL HCL2
                  have HRS := HRS0
                  have HLI := HLI0
                  have HKK := Lib.hid hkk
                  obtain ⟨y0, y1⟩ := And.intro HCL.out HCT.out
                  have hkl1 : 1 ≤ kk := by omega
                  have hkl2 : kk ≤ 3 := by omega
                  clear hy hct hlie hkk HRS0 HLI0 hcl hli hsm hkl
                  go_wp2_with fail
                  have HSA : Hid (∀ w', Below wr.heap.size wr w' → w'.cell? ⟨gl, offl + i, none⟩ = some (.slice (some ⟨bl, ol, none⟩) kk cl) ∧ w'.cell? ⟨gT, j, none⟩ = some (.int .i64 y)) := Lib.hid (fun w' hb => ⟨(hb.cell (p := ⟨gl, offl + i, none⟩) (World.block_lt_of_cell? wr _ HCL.out)).trans HCL.out, (hb.cell (p := ⟨gT, j, none⟩) (World.block_lt_of_cell? wr _ HCT.out)).trans HCT.out⟩)
                  have HB := Lib.hid ((Below.refl wr.heap.size wr).drew)
                  have hS := HSA.out _ HB.out
                  refine wp_region_any (by kernel_rfl) (any_of_K (k := 14) (S := fun w' => w'.cell? ⟨gl, offl + i, none⟩ = some (.slice (some ⟨bl, ol, none⟩) kk cl) ∧ w'.cell? ⟨gT, j, none⟩ = some (.int .i64 y)) (T := fun _ => True) _ _ _ _ ?_)
                  change anyK _ _ _ _ _ _ _ _ _ _ (World.drew wr)
                  obtain ⟨v, hv⟩ : ∃ w', wr.drew = w' := ⟨_, rfl⟩
                  rw [hv] at HB hS ⊢
                  clear hv
                  refine anyT_take (i := 0) (n := 14) (v := .slice s n c) rfl (by decide) (by kernel_rfl) (by kernel_rfl) (by kernel_rfl) (fun _ _ _ h => h) (Or.inl ⟨by kernel_rfl, fun w' hw => by go_simp⟩) hS trivial ?_
                  refine anyT_take (i := 1) (n := 13) (v := .slice (some ⟨gl, offl, none⟩) nl cll) rfl (by decide) (by kernel_rfl) (by kernel_rfl) (by kernel_rfl) (fun _ _ _ h => h) (Or.inl ⟨by kernel_rfl, fun w' hw => by go_simp⟩) hS trivial ?_
                  refine anyT_take (i := 2) (n := 12) (v := .int .i64 (i : Nat)) rfl (by decide) (by kernel_rfl) (by kernel_rfl) (by kernel_rfl) (fun _ _ _ h => h) (Or.inl ⟨by kernel_rfl, fun w' hw => by go_simp⟩) hS trivial ?_
                  refine anyT_take (i := 3) (n := 11) (v := .pointer (some ⟨gl, offl + i, none⟩)) rfl (by decide) (by kernel_rfl) (by kernel_rfl) (by kernel_rfl) (fun _ _ _ h => h) (Or.inl ⟨by kernel_rfl, fun w' hw => by go_simp⟩) hS trivial ?_
                  refine anyK_take (i := 4) (n := 10) (v := .slice (some ⟨bl, ol, none⟩) kk cl) rfl rfl (by kernel_rfl) (by kernel_rfl) (by kernel_rfl) (by kernel_rfl) (by kernel_rfl) (fun _ _ _ h => h) (Or.inl ⟨by kernel_rfl, fun w' hw => by (obtain ⟨z0, z1⟩ := hw; go_simp)⟩) hS trivial ?_
                  refine anyT_take (i := 6) (n := 9) (v := .slice (some ⟨gT, 0, none⟩) 3 3) rfl (by decide) (by kernel_rfl) (by kernel_rfl) (by kernel_rfl) (fun _ _ _ h => h) (Or.inl ⟨by kernel_rfl, fun w' hw => by go_simp⟩) hS trivial ?_
                  refine anyT_take (i := 7) (n := 8) (v := .int .i64 (j : Nat)) rfl (by decide) (by kernel_rfl) (by kernel_rfl) (by kernel_rfl) (fun _ _ _ h => h) (Or.inl ⟨by kernel_rfl, fun w' hw => by go_simp⟩) hS trivial ?_
                  refine anyT_take (i := 8) (n := 7) (v := .pointer (some ⟨gT, j, none⟩)) rfl (by decide) (by kernel_rfl) (by kernel_rfl) (by kernel_rfl) (fun _ _ _ h => h) (Or.inl ⟨by kernel_rfl, fun w' hw => by go_simp⟩) hS trivial ?_
                  refine anyK_take (i := 9) (n := 6) (v := .int .i64 y) rfl rfl (by kernel_rfl) (by kernel_rfl) (by kernel_rfl) (by kernel_rfl) (by kernel_rfl) (fun _ _ _ h => h) (Or.inl ⟨by kernel_rfl, fun w' hw => by (obtain ⟨z0, z1⟩ := hw; go_simp)⟩) hS trivial ?_
                  refine anyK_all (n := 5) (rs := [5, 10]) (by kernel_rfl) (by simp) (fun i hi => ?_)
                  simp only [List.mem_cons, List.not_mem_nil, or_false] at hi
                  rcases hi with rfl | rfl
                  · refine wpOp_step rfl (fun K' hK => ?_)
                    go_simp
                    refine (ownL_any bl ol kk cl li v (by omega) (HLI.out.below HB.out)).mono ?_
                    rintro e v1 ⟨vv, rfl, hg⟩
                    obtain ⟨g2, c2, rfl⟩ := own_first hg.1 (by rw [HKK.out]; omega)
                    rw [HKK.out] at hg ⊢
                    have hA := (Below.refl _ v1).alloc (Nat.le_refl _) (.cells #[.int .i64 y] 2)
                    have HOW := Lib.hid (hg.1.alloc (.cells #[.int .i64 y] 2))
                    have HBA := Lib.hid (bthen hg.2 hA)
                    have HSZ := Lib.hid (show v.heap.size ≤ (v1.alloc (.cells #[.int .i64 y] 2)).heap.size from HBA.out.size)
                    have hS1 := HSA.out _ (bthen HB.out hg.2)
                    replace hS := HSA.out _ (bthen HB.out HBA.out)
                    refine hK _ _ ⟨fun _ _ => hS1, trivial, ?_⟩
                    clear hK hg hA hS1
                    refine anyK_all (n := 4) (rs := [10]) (by kernel_rfl) (by simp) (fun i hi => ?_)
                    simp only [List.mem_cons, List.not_mem_nil, or_false] at hi
                    obtain rfl := hi
                    refine wpOp_step rfl (fun K' hK => ?_)
                    go_simp
                    refine hK _ _ ⟨fun _ _ => hS, trivial, ?_⟩
                    clear hK
                    have hcell : (v1.alloc (.cells #[.int .i64 y] 2)).cell? ⟨v1.heap.size, 0, none⟩ = some (.int .i64 y) := by go_simp
                    obtain ⟨v0, hv0⟩ : ∃ v0, v0 = v := ⟨_, rfl⟩
                    subst hv0
                    obtain ⟨b11, hb11⟩ : ∃ b, v1.heap.size = b := ⟨_, rfl⟩
                    obtain ⟨vA, hvA⟩ : ∃ w', v1.alloc (.cells #[.int .i64 y] 2) = w' := ⟨_, rfl⟩
                    rw [hvA] at hS HOW HBA HSZ
                    rw [hvA, hb11] at hcell
                    rw [hvA]
                    try rw [hb11]
                    clear hvA hb11
                    refine anyK_all (n := 3) (rs := [11]) (by kernel_rfl) (by simp) (fun i hi => ?_)
                    simp only [List.mem_cons, List.not_mem_nil, or_false] at hi
                    obtain rfl := hi
                    refine wpOp_step rfl (fun K' hK => ?_)
                    refine step_ap1 rfl (.tmp 79) (.tmp 84) 24 rfl v0.heap.size 2 (.int .i64 0) 8 Try.underlying24 Try.infoI rfl (.slice (some ⟨g2, 0, none⟩) kk c2) kk _ rfl HOW.out b11 (.int .i64 y) rfl hcell rfl (by omega) (by omega) HSZ.out ?_
                    intro v' w6 hown hgrow _
                    obtain ⟨a6, c6, rfl⟩ := own_form hown
                    obtain ⟨g6, hg6⟩ : ∃ g6, a6 = some ⟨g6, 0, none⟩ := by
                      obtain ⟨g6, c7, e⟩ := own_first hown (by omega)
                      injection e with e1 _ _
                      exact ⟨g6, e1⟩
                    subst hg6
                    have hg6b := hown.lt g6 rfl
                    have HB6 := Lib.hid (show Below wr.heap.size wr w6 from bthen HB.out (below_grown HBA.out HOW.out hgrow HSZ.out))
                    have HI6 := Lib.hid (show IsInts w6 (some ⟨g6, 0, none⟩) (kk + 1) (li ++ [y]) from IsInts.of_own (by rw [List.map_append]; exact hown))
                    have hgw : wr.heap.size ≤ g6 := by have := HB.out.size; omega
                    have hgl6 : g6 < w6.heap.size := hg6b.2
                    replace hS := HSA.out _ HB6.out
                    refine hK _ _ ⟨fun _ _ => hS, trivial, ?_⟩
                    clear hK hown hgrow hg6b
                    have hA7 := (Below.refl _ w6).alloc (Nat.le_refl _) (.cells #[.slice (some ⟨g6, 0, none⟩) (kk + 1) c6] 24)
                    have hcell7 : (w6.alloc (.cells #[.slice (some ⟨g6, 0, none⟩) (kk + 1) c6] 24)).cell? ⟨w6.heap.size, 0, none⟩ = some (.slice (some ⟨g6, 0, none⟩) (kk + 1) c6) := by
                      have h := heap_at_new w6 (.cells #[.slice (some ⟨g6, 0, none⟩) (kk + 1) c6] 24)
                      simp only [World.cell?, h]; rfl
                    have HB7 := Lib.hid (bthen HB6.out hA7)
                    have HI7 := Lib.hid (HI6.out.below hA7)
                    have hgl7 : g6 < (w6.alloc (.cells #[.slice (some ⟨g6, 0, none⟩) (kk + 1) c6] 24)).heap.size := Nat.lt_of_lt_of_le hgl6 hA7.size
                    refine anyK_all (n := 2) (rs := [12]) (by kernel_rfl) (by simp) (fun i hi => ?_)
                    simp only [List.mem_cons, List.not_mem_nil, or_false] at hi
                    obtain rfl := hi
                    refine wpOp_step rfl (fun K' hK => ?_)
                    go_simp
                    replace hS := HSA.out _ HB7.out
                    refine hK _ _ ⟨fun _ _ => hS, trivial, ?_⟩
                    clear hK hA7
                    obtain ⟨b12, hb12⟩ : ∃ b, w6.heap.size = b := ⟨_, rfl⟩
                    obtain ⟨vB, hvB⟩ : ∃ w', w6.alloc (.cells #[.slice (some ⟨g6, 0, none⟩) (kk + 1) c6] 24) = w' := ⟨_, rfl⟩
                    rw [hvB] at hS HB7 HI7 hgl7
                    rw [hvB, hb12] at hcell7
                    rw [hvB]
                    try rw [hb12]
                    clear hvB hb12 hgl6
                    obtain ⟨vals, hG, hV⟩ := HGL.out.ret HB7.out
                    rw [HRL.out] at hG
                    have HOV := Lib.hid hG.1
                    have HSV := Lib.hid hG.2.size
                    refine anyK_all (n := 1) (rs := [13]) (by kernel_rfl) (by simp) (fun i hi => ?_)
                    simp only [List.mem_cons, List.not_mem_nil, or_false] at hi
                    obtain rfl := hi
                    refine wpOp_step rfl (fun K' hK => ?_)
                    refine step_ap1 rfl (.tmp 74) (.tmp 86) 84 rfl w2.heap.size 24 (.slice none 0 0) 24 Try.underlying84 Try.infoLL rfl (.slice s n c) n vals rfl HOV.out b12 (.slice (some ⟨g6, 0, none⟩) (kk + 1) c6) rfl hcell7 rfl (by omega) (by omega) HSV.out ?_
                    intro v' w9 hown hgrow hat
                    obtain ⟨a9, c9, rfl⟩ := own_form hown
                    have hGP : GLL w2 w9 (.slice a9 (n + 1) c9) (rM L T i j ++ [li ++ [y]]) := by
                      have hlen : (li ++ [y]).length = kk + 1 := by rw [List.length_append, HKK.out]; rfl
                      refine GLL.push (by rw [HRL.out]; exact hG) hV (g := g6) (c := c6) (by rw [hlen]; exact HI7.out) hgl7 (fun e => by have := HOB.out g6 e.symm; omega) (by rw [HRL.out, hlen]; exact hown) hgrow hat
                    rw [HRS.out] at hGP
                    have HGP := Lib.hid hGP
                    have HT9 := Lib.hid ((HTT.out.below HB7.out).gr hgrow (fun e => HNT.out gT e.symm rfl))
                    have HOB9 := Lib.hid (show ∀ g, (Value.slice a9 (n + 1) c9).ownBlock = some g → g < w9.heap.size ∧ g ≠ gT from fun g e => by
                      refine ⟨(hown.lt g e).2, ?_⟩
                      rcases hat with h | h
                      · rw [h] at e; exact fun h2 => HNT.out g e h2
                      · rw [h] at e
                        injection e with e
                        have h1 := World.block_lt_of_cell? wr _ HCT.out
                        have h2 := HB7.out.size
                        intro h3
                        rw [← e] at h3
                        rw [h3] at h2
                        exact absurd h1 (Nat.not_lt.2 h2))
                    have hS9 : w9.cell? ⟨gl, offl + i, none⟩ = some (.slice (some ⟨bl, ol, none⟩) kk cl) ∧ w9.cell? ⟨gT, j, none⟩ = some (.int .i64 y) := ⟨(GLL.bel hGP).cell (p := ⟨gl, offl + i, none⟩) (World.block_lt_of_cell? w2 _ HCL2.out) |>.trans HCL2.out, by
                      obtain ⟨b', o', e5, hc⟩ := HT9.out.at hjt
                      simp only [Option.some.injEq, Addr.mk.injEq] at e5
                      obtain ⟨rfl, rfl, _⟩ := e5
                      rw [HY.out, Nat.zero_add] at hc
                      exact hc⟩
                    refine hK _ _ ⟨fun _ _ => hS9, trivial, ?_⟩
                    clear hK hown hgrow hat hGP hG hV hcell7 hgl7 hgw hS
                    refine anyK_all (n := 0) (rs := [14]) (by kernel_rfl) (by simp) (fun i hi => ?_)
                    simp only [List.mem_cons, List.not_mem_nil, or_false] at hi
                    obtain rfl := hi
                    refine wpOp_step rfl (fun K' hK => ?_)
                    go_simp
                    refine hK _ _ ⟨(fun h => absurd rfl h), trivial, ?_⟩
                    clear hK hS9
                    refine ⟨by kernel_rfl, ?_⟩
                    go_wp2_with fail
                    go_roundw
                    case rel => exact ⟨j + 1, a9, c9, n + 1, by omega, by go_num, rfl, by omega, Lib.hid (by rw [← HRS.out, List.length_append, HRL.out]; rfl), HGP, HT9, HOB9⟩
                    case measure => simp [intOf] <;> omega
                  · refine wpOp_step rfl (fun K' hK => ?_)
                    go_simp
                    have hA := (Below.refl _ v).alloc (Nat.le_refl _) (.cells #[.int .i64 y] 2)
                    have HAB := Lib.hid hA
                    have hS1 := HSA.out _ (bthen HB.out hA)
                    refine hK _ _ ⟨fun _ _ => hS1, trivial, ?_⟩
                    clear hK hA
                    have hcell0 : (v.alloc (.cells #[.int .i64 y] 2)).cell? ⟨v.heap.size, 0, none⟩ = some (.int .i64 y) := by go_simp
                    have hlt0 : v.heap.size < (v.alloc (.cells #[.int .i64 y] 2)).heap.size := by simp
                    obtain ⟨b11, hb11⟩ : ∃ b, v.heap.size = b := ⟨_, rfl⟩
                    obtain ⟨v0, hv0⟩ : ∃ w', v.alloc (.cells #[.int .i64 y] 2) = w' := ⟨_, rfl⟩
                    rw [hv0] at hS1 HAB hlt0
                    rw [hv0, hb11] at hcell0
                    rw [hb11] at hlt0
                    rw [hv0]
                    try rw [hb11]
                    clear hv0 hb11
                    refine anyK_all (n := 4) (rs := [5]) (by kernel_rfl) (by simp) (fun i hi => ?_)
                    simp only [List.mem_cons, List.not_mem_nil, or_false] at hi
                    obtain rfl := hi
                    refine wpOp_step rfl (fun K' hK => ?_)
                    go_simp
                    refine (ownL_any bl ol kk cl li v0 (by omega) (HLI.out.below (bthen HB.out HAB.out))).mono ?_
                    rintro e v1 ⟨vv, rfl, hg⟩
                    obtain ⟨g2, c2, rfl⟩ := own_first hg.1 (by rw [HKK.out]; omega)
                    rw [HKK.out] at hg ⊢
                    have HOW := Lib.hid hg.1
                    have HG1 := Lib.hid hg.2
                    have HBA := Lib.hid (bthen HAB.out hg.2)
                    have HSZ := Lib.hid hg.2.size
                    have hcell : v1.cell? ⟨b11, 0, none⟩ = some (.int .i64 y) := (hg.2.cell (p := ⟨b11, 0, none⟩) hlt0).trans hcell0
                    replace hS := HSA.out _ (bthen HB.out HBA.out)
                    refine hK _ _ ⟨fun _ _ => hS, trivial, ?_⟩
                    clear hK hg hS1 hcell0 hlt0
                    refine anyK_all (n := 3) (rs := [11]) (by kernel_rfl) (by simp) (fun i hi => ?_)
                    simp only [List.mem_cons, List.not_mem_nil, or_false] at hi
                    obtain rfl := hi
                    refine wpOp_step rfl (fun K' hK => ?_)
                    refine step_ap1 rfl (.tmp 79) (.tmp 84) 24 rfl v0.heap.size 2 (.int .i64 0) 8 Try.underlying24 Try.infoI rfl (.slice (some ⟨g2, 0, none⟩) kk c2) kk _ rfl HOW.out b11 (.int .i64 y) rfl hcell rfl (by omega) (by omega) HSZ.out ?_
                    intro v' w6 hown hgrow _
                    obtain ⟨a6, c6, rfl⟩ := own_form hown
                    obtain ⟨g6, hg6⟩ : ∃ g6, a6 = some ⟨g6, 0, none⟩ := by
                      obtain ⟨g6, c7, e⟩ := own_first hown (by omega)
                      injection e with e1 _ _
                      exact ⟨g6, e1⟩
                    subst hg6
                    have hg6b := hown.lt g6 rfl
                    have HB6 := Lib.hid (show Below wr.heap.size wr w6 from bthen HB.out (bthen HAB.out (below_grown HG1.out HOW.out hgrow HSZ.out)))
                    have HI6 := Lib.hid (show IsInts w6 (some ⟨g6, 0, none⟩) (kk + 1) (li ++ [y]) from IsInts.of_own (by rw [List.map_append]; exact hown))
                    have hgw : wr.heap.size ≤ g6 := by have := HB.out.size; have := HAB.out.size; omega
                    have hgl6 : g6 < w6.heap.size := hg6b.2
                    replace hS := HSA.out _ HB6.out
                    refine hK _ _ ⟨fun _ _ => hS, trivial, ?_⟩
                    clear hK hown hgrow hg6b
                    have hA7 := (Below.refl _ w6).alloc (Nat.le_refl _) (.cells #[.slice (some ⟨g6, 0, none⟩) (kk + 1) c6] 24)
                    have hcell7 : (w6.alloc (.cells #[.slice (some ⟨g6, 0, none⟩) (kk + 1) c6] 24)).cell? ⟨w6.heap.size, 0, none⟩ = some (.slice (some ⟨g6, 0, none⟩) (kk + 1) c6) := by
                      have h := heap_at_new w6 (.cells #[.slice (some ⟨g6, 0, none⟩) (kk + 1) c6] 24)
                      simp only [World.cell?, h]; rfl
                    have HB7 := Lib.hid (bthen HB6.out hA7)
                    have HI7 := Lib.hid (HI6.out.below hA7)
                    have hgl7 : g6 < (w6.alloc (.cells #[.slice (some ⟨g6, 0, none⟩) (kk + 1) c6] 24)).heap.size := Nat.lt_of_lt_of_le hgl6 hA7.size
                    refine anyK_all (n := 2) (rs := [12]) (by kernel_rfl) (by simp) (fun i hi => ?_)
                    simp only [List.mem_cons, List.not_mem_nil, or_false] at hi
                    obtain rfl := hi
                    refine wpOp_step rfl (fun K' hK => ?_)
                    go_simp
                    replace hS := HSA.out _ HB7.out
                    refine hK _ _ ⟨fun _ _ => hS, trivial, ?_⟩
                    clear hK hA7
                    obtain ⟨b12, hb12⟩ : ∃ b, w6.heap.size = b := ⟨_, rfl⟩
                    obtain ⟨vB, hvB⟩ : ∃ w', w6.alloc (.cells #[.slice (some ⟨g6, 0, none⟩) (kk + 1) c6] 24) = w' := ⟨_, rfl⟩
                    rw [hvB] at hS HB7 HI7 hgl7
                    rw [hvB, hb12] at hcell7
                    rw [hvB]
                    try rw [hb12]
                    clear hvB hb12 hgl6
                    obtain ⟨vals, hG, hV⟩ := HGL.out.ret HB7.out
                    rw [HRL.out] at hG
                    have HOV := Lib.hid hG.1
                    have HSV := Lib.hid hG.2.size
                    refine anyK_all (n := 1) (rs := [13]) (by kernel_rfl) (by simp) (fun i hi => ?_)
                    simp only [List.mem_cons, List.not_mem_nil, or_false] at hi
                    obtain rfl := hi
                    refine wpOp_step rfl (fun K' hK => ?_)
                    refine step_ap1 rfl (.tmp 74) (.tmp 86) 84 rfl w2.heap.size 24 (.slice none 0 0) 24 Try.underlying84 Try.infoLL rfl (.slice s n c) n vals rfl HOV.out b12 (.slice (some ⟨g6, 0, none⟩) (kk + 1) c6) rfl hcell7 rfl (by omega) (by omega) HSV.out ?_
                    intro v' w9 hown hgrow hat
                    obtain ⟨a9, c9, rfl⟩ := own_form hown
                    have hGP : GLL w2 w9 (.slice a9 (n + 1) c9) (rM L T i j ++ [li ++ [y]]) := by
                      have hlen : (li ++ [y]).length = kk + 1 := by rw [List.length_append, HKK.out]; rfl
                      refine GLL.push (by rw [HRL.out]; exact hG) hV (g := g6) (c := c6) (by rw [hlen]; exact HI7.out) hgl7 (fun e => by have := HOB.out g6 e.symm; omega) (by rw [HRL.out, hlen]; exact hown) hgrow hat
                    rw [HRS.out] at hGP
                    have HGP := Lib.hid hGP
                    have HT9 := Lib.hid ((HTT.out.below HB7.out).gr hgrow (fun e => HNT.out gT e.symm rfl))
                    have HOB9 := Lib.hid (show ∀ g, (Value.slice a9 (n + 1) c9).ownBlock = some g → g < w9.heap.size ∧ g ≠ gT from fun g e => by
                      refine ⟨(hown.lt g e).2, ?_⟩
                      rcases hat with h | h
                      · rw [h] at e; exact fun h2 => HNT.out g e h2
                      · rw [h] at e
                        injection e with e
                        have h1 := World.block_lt_of_cell? wr _ HCT.out
                        have h2 := HB7.out.size
                        intro h3
                        rw [← e] at h3
                        rw [h3] at h2
                        exact absurd h1 (Nat.not_lt.2 h2))
                    have hS9 : w9.cell? ⟨gl, offl + i, none⟩ = some (.slice (some ⟨bl, ol, none⟩) kk cl) ∧ w9.cell? ⟨gT, j, none⟩ = some (.int .i64 y) := ⟨(GLL.bel hGP).cell (p := ⟨gl, offl + i, none⟩) (World.block_lt_of_cell? w2 _ HCL2.out) |>.trans HCL2.out, by
                      obtain ⟨b', o', e5, hc⟩ := HT9.out.at hjt
                      simp only [Option.some.injEq, Addr.mk.injEq] at e5
                      obtain ⟨rfl, rfl, _⟩ := e5
                      rw [HY.out, Nat.zero_add] at hc
                      exact hc⟩
                    refine hK _ _ ⟨fun _ _ => hS9, trivial, ?_⟩
                    clear hK hown hgrow hat hGP hG hV hcell7 hgl7 hgw hS
                    refine anyK_all (n := 0) (rs := [14]) (by kernel_rfl) (by simp) (fun i hi => ?_)
                    simp only [List.mem_cons, List.not_mem_nil, or_false] at hi
                    obtain rfl := hi
                    refine wpOp_step rfl (fun K' hK => ?_)
                    go_simp
                    refine hK _ _ ⟨(fun h => absurd rfl h), trivial, ?_⟩
                    clear hK hS9
                    refine ⟨by kernel_rfl, ?_⟩
                    go_wp2_with fail
                    go_roundw
                    case rel => exact ⟨j + 1, a9, c9, n + 1, by omega, by go_num, rfl, by omega, Lib.hid (by rw [← HRS.out, List.length_append, HRL.out]; rfl), HGP, HT9, HOB9⟩
                    case measure => simp [intOf] <;> omega
                · obtain rfl : j = 3 := by omega
                  have hji : ¬ ((3 : Nat) : Int) < ((3 : Nat) : Int) := by omega
                  have HAL := Lib.hid (show rM L T i 3 = rN L T (i + 1) by rw [← HTL.out]; exact rM_all (by rw [HLL.out.1]; exact hil))
                  rw [HAL.out] at HRL HGL
                  go_wp2_with fail
                  go_roundw
                  case rel => exact ⟨i + 1, s, c, n, by omega, by go_num, rfl, hn, HRL, HGL, HTT, HOBB⟩
                  case measure => simp [intOf] <;> omega
            · obtain rfl : i = nl := by omega
              have hii : ¬ (i : Int) < (i : Int) := by omega
              have HAL := Lib.hid (show rN L T i = rL a m (x : Int) (k + 1) by
                have h1 := HLL.out.1
                rw [← h1, rN_all, ← HL.out, ← HT.out]; rfl)
              rw [HAL.out] at HRL HGL
              have HLN := Lib.hid (HGL.out.read HRL.out)
              have HBN := Lib.hid (bthen HB12.out HGL.out.bel)
              go_wp2_with fail
              go_roundw
              case rel => exact ⟨k + 1, p2, s, n, c, by go_num, rfl, rfl, by omega, HP2, HLN, HBN⟩
              case measure => simp [intOf] <;> omega
        · have hki : ¬ ((k + 1 : Nat) : Int) < (D : Int) := by omega
          have hDk : D = k + 1 := by omega
          have hk1 : 1 ≤ k := by omega
          have hk3 : k ≤ 3 := by omega
          have HDK := Lib.hid hDk
          clear hDk
          obtain ⟨w5, hw5⟩ : ∃ x, x = wr := ⟨_, rfl⟩
          subst hw5
          have HCR5 := Lib.hid (HCR1.out.below HB12.out)
          have HB5 := Lib.hid (bthen HBW1.out HB12.out)
          have HG5 := Lib.hid (HG3.out.all HB12.out)
          have HLEN := Lib.hid (fun l hl => (rL_try (a := a) (m := m) (x := (x : Int)) k l hl).len)
          have HSML := Lib.hid (fun l hl => rL_sm (a := a) (m := m) (x := (x : Int)) (k := k) (by omega) (by omega) (by omega) (l := l) hl)
          obtain ⟨L, hL⟩ : ∃ L, rL a m (x : Int) k = L := ⟨_, rfl⟩
          have hLL := HLL
          rw [hL] at HLL
          have HL := Lib.hid hL
          have HFI0 := Lib.hid (show FoldI a m D (L.take 0) c c by rw [List.take_zero]; exact FoldI.start HC0.out.1)
          have hnl9 : nl ≤ 9 := by
            have h1 := (rL_len (a := a) (m := m) (x := (x : Int)) k).2
            rw [hLL.out.1] at h1
            have : 3 ^ k ≤ 3 ^ 2 := Nat.pow_le_pow_right (by omega) (by omega)
            omega
          clear hL hLL
          go_wp2_with fail
          go_loopw [15, 6] (fun v15 v6 wr => ∃ (i : Nat) (c' : List Int) (ab' : Option Addr) (nb' cb' : Nat), i ≤ nl ∧ v15 = .int .i64 (i : Nat) ∧ v6 = .slice ab' nb' cb' ∧ Hid (c'.length = nb') ∧ Hid (FoldI a m D (L.take i) c c') ∧ Hid (SmL c') ∧ Hid (IsInts wr ab' nb' c') ∧ Hid (Below w5.heap.size w5 wr)) (fun v15 _ _ => nl - (intOf v15).toNat)
          case atStart => exact ⟨0, c, ab, nb, cb, Nat.zero_le _, rfl, rfl, Lib.hid HC0.out.2.1, HFI0, Lib.hid HC0.out.2.2, HCR5, Lib.hid (Below.refl _ _)⟩
          case round =>
            clear HFI0
            obtain ⟨i, c', ab', nb', cb', hi, rfl, rfl, HNB, HFI, HSMC, HCR, HBB⟩ := hrel
            by_cases hil : i < nl
            · have hii : (i : Int) < (nl : Int) := by omega
              have hi0 : (0 : Int) ≤ (i : Int) := by omega
              obtain ⟨gl, offl, aj, cl, e7, hcl, hli⟩ := HLL.out.2 i hil
              subst e7
              have hmem : L.getD i [] ∈ L := by
                rw [List.getD, List.getElem?_eq_getElem (show i < L.length by rw [HLL.out.1]; exact hil)]; exact List.getElem_mem _
              have HTK := Lib.hid (show L.take i ++ [L.getD i []] = L.take (i + 1) by
                have h1 : i < L.length := by rw [HLL.out.1]; exact hil
                rw [List.take_succ_eq_append_getElem h1, List.getD, List.getElem?_eq_getElem h1]; rfl)
              obtain ⟨li, hlie⟩ : ∃ li, L.getD i [] = li := ⟨_, rfl⟩
              rw [hlie] at hmem hcl hli HTK
              have hmem2 : li ∈ rL a m (x : Int) k := by rw [HL.out]; exact hmem
              have hlen := HLEN.out li hmem2
              have hsm := HSML.out li hmem2
              have htry := rL_try k li hmem2
              have HST := Lib.hid (show FoldI a m D (L.take (i + 1)) c (bestT c' li) by
                have eD := HDK.out
                rw [← HTK.out]
                have hfi := HFI.out
                have hcc := HC0.out.1
                rw [eD] at hfi hcc ⊢
                refine hfi.step (by rcases hcc with h | h; exact Or.inl h; exact Or.inr h.len) (fun y hy => ?_) hmem2
                refine HLEN.out y ?_
                rw [HL.out]
                exact List.mem_of_mem_take hy)
              have hl2 := hli.below HBB.out
              have cc := (HBB.out.cell (p := ⟨gl, offl + i, none⟩) (World.block_lt_of_cell? w5 _ hcl)).trans hcl
              have HLI := Lib.hid hl2
              have HSM := Lib.hid (And.intro hsm htry.pt)
              rw [hlen] at cc HLI
              have HLE := Lib.hid hlen
              have hsq0 := sqL_nonneg li
              have HSQ := Lib.hid (fun w a cap h => squares_any a (k + 1) cap li w h hsm)
              have HBT : bestT c' li = if 0 < sqL li then bestR c' li else c' := rfl
              obtain ⟨sq, hsq⟩ : ∃ q, sqL li = q := ⟨_, rfl⟩
              rw [hsq] at HSQ HBT hsq0
              have HBTT := Lib.hid HBT
              clear hlie hmem hmem2 hlen hsm htry hl2 hcl hli HBT hsq
              go_wp2_with fail
              refine (HSQ.out _ _ cl HLI.out).mono ?_
              rintro e w6 ⟨rfl, hb⟩
              have H6 := Lib.hid (And.intro (bthen HBB.out hb) (And.intro (HLI.out.below hb) (HCR.out.below hb)))
              have cc6 := (hb.cell (p := ⟨gl, offl + i, none⟩) (World.block_lt_of_cell? wr _ cc)).trans cc
              clear hb cc
              by_cases hpos : 0 < sq
              · have HE := Lib.hid (show bestT c' li = bestR c' li by rw [HBTT.out, if_pos hpos])
                go_wp2_with fail
                refine (holds_any b3 m a ad aj (k + 1) cl li w6 (by omega) (by omega) (HG5.out.all H6.out.1) H6.out.2.1 HSM.out.1 HSM.out.2).mono ?_
                rintro e w7 ⟨rfl, hb⟩
                have H7 := Lib.hid (And.intro (bthen H6.out.1 hb) (And.intro (H6.out.2.1.below hb) (H6.out.2.2.below hb)))
                have cc7 := (hb.cell (p := ⟨gl, offl + i, none⟩) (World.block_lt_of_cell? w6 _ cc6)).trans cc6
                clear hb cc6
                have HBS := Lib.hid (show Calls Try.prog 56 #[.slice ab' nb' cb', .slice aj (k + 1) cl] w7 (RdL w7 (bestT c' li)) by
                  rw [HE.out, ← HNB.out, ← HLE.out]
                  refine best_any ab' aj cb' cl c' li w7 (by rw [HNB.out]; exact H7.out.2.2) (by rw [HLE.out]; exact H7.out.2.1) HSMC.out HSM.out.1 ?_
                  rcases HFI.out.kd with h | h
                  · exact Or.inl h
                  · exact Or.inr (by rw [h.len, HLE.out]; exact HDK.out))
                have HSN := Lib.hid (show SmL (bestT c' li) by
                  rw [HE.out]; unfold bestR
                  split
                  · exact sgn_sm HSM.out.1
                  · split
                    · exact sgn_sm HSM.out.1
                    · exact HSMC.out)
                go_wp2_with fail
                refine HBS.out.mono ?_
                rintro e w8 ⟨a8, c8, rfl, h8, hb⟩
                have H8 := Lib.hid (And.intro h8 (bthen H7.out.1 hb))
                obtain ⟨n8, hn8⟩ : ∃ n, (bestT c' li).length = n := ⟨_, rfl⟩
                rw [hn8] at H8 ⊢
                have HN8 := Lib.hid hn8
                clear h8 hb hn8
                go_wp2_with fail
                go_roundw
                case rel => exact ⟨i + 1, bestT c' li, a8, n8, c8, by omega, by go_num, rfl, HN8, HST, HSN, Lib.hid H8.out.1, Lib.hid H8.out.2⟩
                case measure => simp [intOf] <;> omega
              · have HE := Lib.hid (show bestT c' li = c' by rw [HBTT.out, if_neg hpos])
                have HST2 := HST
                rw [HE.out] at HST2
                go_wp2_with fail
                go_roundw
                case rel => exact ⟨i + 1, c', ab', nb', cb', by omega, by go_num, rfl, HNB, HST2, HSMC, Lib.hid H6.out.2.2, Lib.hid H6.out.1⟩
                case measure => simp [intOf] <;> omega
            · obtain rfl : i = nl := by omega
              have hii : ¬ (i : Int) < (i : Int) := by omega
              have HFF := Lib.hid (show FoldI a m D (rL a m (x : Int) k) c c' by
                have h1 := HFI.out
                rw [List.take_of_length_le (by rw [HLL.out.1]; exact Nat.le_refl _)] at h1
                rw [HL.out]; exact h1)
              have HPN := Lib.hid (show PtR a m D c' (x + 1) by
              have eD := HDK.out
              have h1 := HPR.out
              have h2 := HFF.out
              rw [eD] at h1 h2 ⊢
              exact PtR.step (by omega) hk1 h1 h2)
              have HBE := Lib.hid (bthen HB5.out HBB.out)
              go_wp2_with fail
              go_roundw
              case rel => exact ⟨x + 1, c', ab', nb', cb', by go_num, by first | omega | (have := HX0.out; omega), rfl, HNB, HCR, HBE, HPN, Lib.hid (Or.inr (by omega)), HSMC⟩
              case measure => simp [intOf] <;> omega
    · have HK := Lib.hid (show IsPt a m D c ∧ sqL c ≤ m * m ∧ ∀ i : Nat, i < x → Seen (IsPt a m D) c [(i : Int)] from by
        rcases HPR.out with ⟨_, h⟩ | h
        · exact absurd h hc0
        · exact h)
      have HX0 := Lib.hid (show ¬ (x : Int) = 0 by
        rcases HCX.out with h | h
        · exact absurd h hc0
        · omega)
      have hnb : nb = D := by rw [← HNB.out]; exact HK.out.1.len
      have hni : ¬ (nb : Int) = 0 := by omega
      have hnbb : ((nb : Int) == 0) = false := by rw [beq_eq_false_iff_ne]; omega
      have hxb : ((x : Int) == 0) = false := by rw [beq_eq_false_iff_ne]; exact HX0.out
      have HC0 := Lib.hid (show (c = [] ∨ IsPt a m D c) ∧ c.length = nb ∧ SmL c from ⟨Or.inr HK.out.1, HNB.out, HSC.out⟩)
      have HSQ := Lib.hid (squares_any ab nb cb c wr HCR.out HSC.out)
      have hqb : 0 ≤ (x : Int) * (x : Int) ∧ (x : Int) * (x : Int) ≤ 40000000000 := ⟨sq_nn _, Int.mul_le_mul (b := (x : Int)) (d := 200000) (a := (x : Int)) (c := 200000) (by omega) (by omega) hx0 (by omega)⟩
      have hxm : (x : Int) * (x : Int) ≤ 10000000000 → x ≤ 100000 := fun h => by
        by_cases h1 : 100000 < x
        · have := sq_lt (x := 100000) (y := (x : Int)) (by omega)
          omega
        · omega
      have HSCB := Lib.hid (show sqL c ≤ 10000000000 from Int.le_trans HK.out.2.1 HMM.out)
      obtain ⟨q, hq⟩ : ∃ q, (x : Int) * (x : Int) = q := ⟨_, rfl⟩
      obtain ⟨sc, hsc⟩ : ∃ q, sqL c = q := ⟨_, rfl⟩
      rw [hq] at hqb hxm
      rw [hsc] at HSQ HSCB
      have HQ := Lib.hid (And.intro hq hsc)
      have hqw : IntKind.i64.wrap q = q := IntWalk.i64_in _ (by omega)
      have HND := Lib.hid hnb
      clear hsc hc0 hnb
      go_wp2_with fail
      refine HSQ.out.mono ?_
      rintro e w0 ⟨rfl, hb0⟩
      have HB0 := Lib.hid hb0
      clear hb0
      by_cases hle : q ≤ sc
      · have hxm2 := hxm (by have := HSCB.out; omega)
        go_upto_region 7 with fail
        have HLB := Lib.hid (ll_one w0 (x : Int))
        obtain ⟨w1, hw1⟩ : ∃ y, (w0.alloc (.cells #[.int .i64 (x : Nat)] 2)).alloc (.cells #[.slice (some ⟨w0.heap.size, 0, none⟩) 1 1] 24) = y := ⟨_, rfl⟩
        rw [hw1] at HLB ⊢
        obtain ⟨bl1, hbl1⟩ : ∃ b, w0.heap.size + 1 = b := ⟨_, rfl⟩
        rw [hbl1] at HLB ⊢
        have HLL0 := Lib.hid (show IsLL w1 (some ⟨bl1, 0, none⟩) 1 (rL a m (x : Int) 0) from HLB.out.1)
        have HBW1 := Lib.hid (show Below w.heap.size w w1 from bthen (bthen HBW.out HB0.out) HLB.out.2)
        have HCR1 := Lib.hid (show IsInts w1 ab nb c from (HCR.out.below HB0.out).below HLB.out.2)
        have HG3 := Lib.hid (HG.out.all HBW1.out)
        clear hw1 hbl1 HLB
        go_wp2_with fail
        go_loopw [10, 9, 8] (fun v10 v9 v8 wr => ∃ (k : Nat) (p : Int) (al : Option Addr) (nl cll : Nat), v10 = .int .i64 ((k + 1 : Nat) : Int) ∧ v9 = .int .i64 p ∧ v8 = .slice al nl cll ∧ k + 1 ≤ D ∧ Hid (p = pwM a m k) ∧ Hid (IsLL wr al nl (rL a m (x : Int) k)) ∧ Hid (Below w1.heap.size w1 wr)) (fun v10 _ _ _ => 10 - (intOf v10).toNat)
        case atStart => exact ⟨0, 1, _, 1, 1, rfl, rfl, rfl, by omega, Lib.hid rfl, HLL0, Lib.hid (Below.refl _ _)⟩
        case round =>
          clear HLL0
          obtain ⟨k, p, al, nl, cll, rfl, rfl, rfl, hkD, HP, HLL, HB12⟩ := hrel
          by_cases hkd : k + 1 < D
          · have hki : ((k + 1 : Nat) : Int) < (D : Int) := by omega
            have hpb : 0 ≤ p ∧ p < m := by rw [HP.out]; exact pwM_bd (by omega) k
            have hpa : 0 ≤ p * a ∧ p * a ≤ 10000000000 := ⟨Int.mul_nonneg hpb.1 (by omega), Int.mul_le_mul (b := a) (d := 100000) (a := p) (c := 100000) (by omega) (by omega) (by omega) (by omega)⟩
            have hp2 : (p * a).tmod m = pwM a m (k + 1) := by rw [Int.tmod_eq_emod_of_nonneg hpa.1, HP.out]; rfl
            have hp2b := pwM_bd (a := a) (m := m) (by omega) (k + 1)
            obtain ⟨p2, hp2e⟩ : ∃ p2, pwM a m (k + 1) = p2 := ⟨_, rfl⟩
            rw [hp2e] at hp2 hp2b
            have HP2 := Lib.hid (show p2 = pwM a m (k + 1) from hp2e.symm)
            obtain ⟨t1, ht1⟩ : ∃ t, p * a = t := ⟨_, rfl⟩
            rw [ht1] at hpa hp2
            have ht1w : IntKind.i64.wrap t1 = t1 := IntWalk.i64_in _ (by omega)
            have hx2 : (x : Int) ≤ 200000 := by omega
            have hpx : 0 ≤ p2 * (x : Int) ∧ p2 * (x : Int) ≤ 10000000000 * 2 := ⟨Int.mul_nonneg hp2b.1 hx0, Int.mul_le_mul (b := (x : Int)) (d := 200000) (a := p2) (c := 100000) (by omega) (by omega) hx0 (by omega)⟩
            obtain ⟨t2, ht2⟩ : ∃ t, p2 * (x : Int) = t := ⟨_, rfl⟩
            rw [ht2] at hpx
            have ht2w : IntKind.i64.wrap t2 = t2 := IntWalk.i64_in _ (by omega)
            have HT2 := Lib.hid ht2
            have hk1w : IntKind.i64.wrap (((k + 1 : Nat) : Int) + 1) = ((k + 1 + 1 : Nat) : Int) := by rw [IntWalk.i64_in _ (by omega)]; omega
            have hnl9 : nl ≤ 9 := by
              have h1 := (rL_len (a := a) (m := m) (x := (x : Int)) k).2
              rw [HLL.out.1] at h1
              have : 3 ^ k ≤ 3 ^ 2 := Nat.pow_le_pow_right (by omega) (by omega)
              omega
            obtain ⟨w2, hw2⟩ : ∃ x, x = wr := ⟨_, rfl⟩
            subst hw2
            obtain ⟨y0, y1, y2, y3⟩ := HG3.out.all HB12.out
            have HGL00 := Lib.hid (GLL.start w2)
            obtain ⟨z0, z1, z2, z3⟩ := (HG3.out.all HB12.out).all HGL00.out.bel
            clear hp2e
            go_wp2_with fail
            refine (two_any t2 m _ (by omega) (by omega)).mono ?_
            rintro e w4 ⟨c12, rfl, hi4, hb4⟩
            have HTT0 := Lib.hid hi4
            have hb5 := hb4
            have HGL0 := Lib.hid (show GLL w2 _ _ (rN (rL a m (x : Int) k) (twoM t2 m) 0) by rw [rN_zero]; exact HGL00.out.ret hb4)
            have HNB0 := Lib.hid (show ∀ g, (Value.slice (some ⟨w2.heap.size, 0, none⟩) 0 0).ownBlock = some g → g < w4.heap.size ∧ g ≠ (w2.alloc (.cells #[] 24)).heap.size from fun g e => by
              injection e with e
              have h1 := hb4.size
              have h3 : w2.heap.size < (w2.alloc (.cells #[] 24)).heap.size := by simp
              have e2 : w2.heap.size = g := e
              omega)
            have HT := Lib.hid (show rTwo a m (x : Int) (k + 1) = twoM t2 m by unfold rTwo; rw [if_neg HX0.out, ← HP2.out, HT2.out])
            have hnt3 : (twoM t2 m).length ≤ 3 := by
              have := (rTwo_len a m (x : Int) (k + 1)).2
              rw [HT.out] at this; exact this
            obtain ⟨T, hT⟩ : ∃ T, twoM t2 m = T := ⟨_, rfl⟩
            rw [hT] at HTT0 HGL0 HT hnt3 ⊢
            obtain ⟨nt, hnt⟩ : ∃ n, T.length = n := ⟨_, rfl⟩
            have HTL := Lib.hid hnt
            rw [hnt] at HTT0 hnt3 ⊢
            obtain ⟨gT, hgT⟩ : ∃ g, (w2.alloc (.cells #[] 24)).heap.size = g := ⟨_, rfl⟩
            rw [hgT] at HTT0 HNB0 ⊢
            clear hi4 hb4 hb5 hT hnt hgT
            have HL0 := Lib.hid (fun l hl => (rL_try (a := a) (m := m) (x := (x : Int)) k l hl).len)
            have HLS0 := Lib.hid (fun l hl => rL_sm (a := a) (m := m) (x := (x : Int)) (k := k) (by omega) (by omega) (by omega) (l := l) hl)
            obtain ⟨L, hL⟩ : ∃ L, rL a m (x : Int) k = L := ⟨_, rfl⟩
            rw [hL] at HLL HL0 HLS0 HGL0
            have HL := Lib.hid hL
            have HKL := Lib.hid (show ∀ i, i < nl → (L.getD i []).length = k + 1 from fun i hi => HL0.out _ (by rw [List.getD, List.getElem?_eq_getElem (show i < L.length by rw [HLL.out.1]; exact hi)]; exact List.getElem_mem _))
            have HLSM := Lib.hid (show ∀ i, i < nl → SmL (L.getD i []) from fun i hi => HLS0.out _ (by rw [List.getD, List.getElem?_eq_getElem (show i < L.length by rw [HLL.out.1]; exact hi)]; exact List.getElem_mem _))
            clear hL HL0 HLS0 y0 y1 y2 y3 z0 z1 z2 z3 ht1 ht2
            go_wp2_with fail
            go_loopw [13, 11] (fun v13 v11 wr => ∃ (i : Nat) (s : Option Addr) (c n : Nat), i ≤ nl ∧ v13 = .int .i64 (i : Nat) ∧ v11 = .slice s n c ∧ n ≤ 1000 ∧ Hid ((rN L T i).length = n) ∧ Hid (GLL w2 wr (.slice s n c) (rN L T i)) ∧ Hid (IsInts wr (some ⟨gT, 0, none⟩) nt T) ∧ Hid (∀ g, (Value.slice s n c).ownBlock = some g → g < wr.heap.size ∧ g ≠ gT)) (fun v13 _ _ => nl - (intOf v13).toNat)
            case atStart => exact ⟨0, _, _, 0, Nat.zero_le _, rfl, rfl, by omega, Lib.hid (by rw [rN_zero]; rfl), HGL0, HTT0, HNB0⟩
            case round =>
              clear HGL0 HTT0 HNB0
              obtain ⟨i, s, c, n, hi, rfl, rfl, hn, HRL, HGL, HTT, HOB⟩ := hrel
              by_cases hil : i < nl
              · have hii : (i : Int) < (nl : Int) := by omega
                have hi0 : (0 : Int) ≤ (i : Int) := by omega
                have HRM0 := Lib.hid (rM_zero L T i)
                have HGL1 := Lib.hid (show GLL w2 wr (.slice s n c) (rM L T i 0) by rw [HRM0.out]; exact HGL.out)
                have HRL1 := Lib.hid (show (rM L T i 0).length = n by rw [HRM0.out]; exact HRL.out)
                clear HGL HRL
                go_wp2_with fail
                go_loopw [14, 11] (fun v14 v11 wr => ∃ (j : Nat) (s : Option Addr) (c n : Nat), j ≤ nt ∧ v14 = .int .i64 (j : Nat) ∧ v11 = .slice s n c ∧ n ≤ 1000 ∧ Hid ((rM L T i j).length = n) ∧ Hid (GLL w2 wr (.slice s n c) (rM L T i j)) ∧ Hid (IsInts wr (some ⟨gT, 0, none⟩) nt T) ∧ Hid (∀ g, (Value.slice s n c).ownBlock = some g → g < wr.heap.size ∧ g ≠ gT)) (fun v14 _ _ => nt - (intOf v14).toNat)
                case atStart => exact ⟨0, s, c, n, Nat.zero_le _, rfl, rfl, hn, HRL1, HGL1, HTT, HOB⟩
                case round =>
                  clear HGL1 HRL1 HTT HOB hn
                  obtain ⟨j, s, c, n, hj, rfl, rfl, hn, HRL, HGL, HTT, HOBB⟩ := hrel
                  by_cases hjt : j < nt
                  · have hji : (j : Int) < (nt : Int) := by omega
                    have hj0 : (0 : Int) ≤ (j : Int) := by omega
                    have HOB := Lib.hid (fun g e => (HOBB.out g e).1)
                    have HNT := Lib.hid (fun g e => (HOBB.out g e).2)
                    obtain ⟨gl, offl, aj, cl, e7, hcl, hli⟩ := HLL.out.2 i hil
                    subst e7
                    have hkl := HKL.out i hil
                    have hsm := HLSM.out
                    obtain ⟨bl, ol, e8, _⟩ := hli.at (show 0 < (L.getD i []).length by omega)
                    subst e8
                    obtain ⟨b', o', e5, hct⟩ := HTT.out.at hjt
                    simp only [Option.some.injEq, Addr.mk.injEq] at e5
                    obtain ⟨rfl, rfl, _⟩ := e5
                    have HRS0 := Lib.hid (rM_succ (L := L) (T := T) (i := i) (j := j) (by rw [HTL.out]; exact hjt))
                    have HLI0 := Lib.hid (hli.below HGL.out.bel)
                    have HCL2 := Lib.hid hcl
                    have HCL := Lib.hid ((HGL.out.bel.cell (p := ⟨gl, offl + i, none⟩) (World.block_lt_of_cell? w2 _ hcl)).trans hcl)
                    have hbn : n ≤ 900 := by
                      have h1 := rM_len (L := L) (T := T) (i := i) (j := j) (by rw [HLL.out.1]; omega) (by rw [HTL.out]; omega)
                      rw [HRL.out, HTL.out] at h1
                      have : i * nt ≤ 9 * 3 := Nat.mul_le_mul (by omega) (by omega)
                      omega
                    obtain ⟨y, hy⟩ : ∃ y, T.getD j 0 = y := ⟨_, rfl⟩
                    rw [Nat.zero_add] at hct
                    rw [hy] at hct HRS0
                    have HY := Lib.hid hy
                    have HCT := Lib.hid hct
                    obtain ⟨li, hlie⟩ : ∃ li, L.getD i [] = li := ⟨_, rfl⟩
                    rw [hlie] at hkl HRS0 HLI0 HCL HCL2
                    obtain ⟨kk, hkk⟩ : ∃ kk, li.length = kk := ⟨_, rfl⟩
                    rw [hkk] at hkl HLI0 HCL HCL2
                    have HRS := HRS0
                    have HLI := HLI0
                    have HKK := Lib.hid hkk
                    obtain ⟨y0, y1⟩ := And.intro HCL.out HCT.out
                    have hkl1 : 1 ≤ kk := by omega
                    have hkl2 : kk ≤ 3 := by omega
                    clear hy hct hlie hkk HRS0 HLI0 hcl hli hsm hkl
                    go_wp2_with fail
                    have HSA : Hid (∀ w', Below wr.heap.size wr w' → w'.cell? ⟨gl, offl + i, none⟩ = some (.slice (some ⟨bl, ol, none⟩) kk cl) ∧ w'.cell? ⟨gT, j, none⟩ = some (.int .i64 y)) := Lib.hid (fun w' hb => ⟨(hb.cell (p := ⟨gl, offl + i, none⟩) (World.block_lt_of_cell? wr _ HCL.out)).trans HCL.out, (hb.cell (p := ⟨gT, j, none⟩) (World.block_lt_of_cell? wr _ HCT.out)).trans HCT.out⟩)
                    have HB := Lib.hid ((Below.refl wr.heap.size wr).drew)
                    have hS := HSA.out _ HB.out
                    refine wp_region_any (by kernel_rfl) (any_of_K (k := 14) (S := fun w' => w'.cell? ⟨gl, offl + i, none⟩ = some (.slice (some ⟨bl, ol, none⟩) kk cl) ∧ w'.cell? ⟨gT, j, none⟩ = some (.int .i64 y)) (T := fun _ => True) _ _ _ _ ?_)
                    change anyK _ _ _ _ _ _ _ _ _ _ (World.drew wr)
                    obtain ⟨v, hv⟩ : ∃ w', wr.drew = w' := ⟨_, rfl⟩
                    rw [hv] at HB hS ⊢
                    clear hv
                    refine anyT_take (i := 0) (n := 14) (v := .slice s n c) rfl (by decide) (by kernel_rfl) (by kernel_rfl) (by kernel_rfl) (fun _ _ _ h => h) (Or.inl ⟨by kernel_rfl, fun w' hw => by go_simp⟩) hS trivial ?_
                    refine anyT_take (i := 1) (n := 13) (v := .slice (some ⟨gl, offl, none⟩) nl cll) rfl (by decide) (by kernel_rfl) (by kernel_rfl) (by kernel_rfl) (fun _ _ _ h => h) (Or.inl ⟨by kernel_rfl, fun w' hw => by go_simp⟩) hS trivial ?_
                    refine anyT_take (i := 2) (n := 12) (v := .int .i64 (i : Nat)) rfl (by decide) (by kernel_rfl) (by kernel_rfl) (by kernel_rfl) (fun _ _ _ h => h) (Or.inl ⟨by kernel_rfl, fun w' hw => by go_simp⟩) hS trivial ?_
                    refine anyT_take (i := 3) (n := 11) (v := .pointer (some ⟨gl, offl + i, none⟩)) rfl (by decide) (by kernel_rfl) (by kernel_rfl) (by kernel_rfl) (fun _ _ _ h => h) (Or.inl ⟨by kernel_rfl, fun w' hw => by go_simp⟩) hS trivial ?_
                    refine anyK_take (i := 4) (n := 10) (v := .slice (some ⟨bl, ol, none⟩) kk cl) rfl rfl (by kernel_rfl) (by kernel_rfl) (by kernel_rfl) (by kernel_rfl) (by kernel_rfl) (fun _ _ _ h => h) (Or.inl ⟨by kernel_rfl, fun w' hw => by (obtain ⟨z0, z1⟩ := hw; go_simp)⟩) hS trivial ?_
                    refine anyT_take (i := 6) (n := 9) (v := .slice (some ⟨gT, 0, none⟩) nt c12) rfl (by decide) (by kernel_rfl) (by kernel_rfl) (by kernel_rfl) (fun _ _ _ h => h) (Or.inl ⟨by kernel_rfl, fun w' hw => by go_simp⟩) hS trivial ?_
                    refine anyT_take (i := 7) (n := 8) (v := .int .i64 (j : Nat)) rfl (by decide) (by kernel_rfl) (by kernel_rfl) (by kernel_rfl) (fun _ _ _ h => h) (Or.inl ⟨by kernel_rfl, fun w' hw => by go_simp⟩) hS trivial ?_
                    refine anyT_take (i := 8) (n := 7) (v := .pointer (some ⟨gT, j, none⟩)) rfl (by decide) (by kernel_rfl) (by kernel_rfl) (by kernel_rfl) (fun _ _ _ h => h) (Or.inl ⟨by kernel_rfl, fun w' hw => by go_simp⟩) hS trivial ?_
                    refine anyK_take (i := 9) (n := 6) (v := .int .i64 y) rfl rfl (by kernel_rfl) (by kernel_rfl) (by kernel_rfl) (by kernel_rfl) (by kernel_rfl) (fun _ _ _ h => h) (Or.inl ⟨by kernel_rfl, fun w' hw => by (obtain ⟨z0, z1⟩ := hw; go_simp)⟩) hS trivial ?_
                    refine anyK_all (n := 5) (rs := [5, 10]) (by kernel_rfl) (by simp) (fun i hi => ?_)
                    simp only [List.mem_cons, List.not_mem_nil, or_false] at hi
                    rcases hi with rfl | rfl
                    · refine wpOp_step rfl (fun K' hK => ?_)
                      go_simp
                      refine (ownL_any bl ol kk cl li v (by omega) (HLI.out.below HB.out)).mono ?_
                      rintro e v1 ⟨vv, rfl, hg⟩
                      obtain ⟨g2, c2, rfl⟩ := own_first hg.1 (by rw [HKK.out]; omega)
                      rw [HKK.out] at hg ⊢
                      have hA := (Below.refl _ v1).alloc (Nat.le_refl _) (.cells #[.int .i64 y] 2)
                      have HOW := Lib.hid (hg.1.alloc (.cells #[.int .i64 y] 2))
                      have HBA := Lib.hid (bthen hg.2 hA)
                      have HSZ := Lib.hid (show v.heap.size ≤ (v1.alloc (.cells #[.int .i64 y] 2)).heap.size from HBA.out.size)
                      have hS1 := HSA.out _ (bthen HB.out hg.2)
                      replace hS := HSA.out _ (bthen HB.out HBA.out)
                      refine hK _ _ ⟨fun _ _ => hS1, trivial, ?_⟩
                      clear hK hg hA hS1
                      refine anyK_all (n := 4) (rs := [10]) (by kernel_rfl) (by simp) (fun i hi => ?_)
                      simp only [List.mem_cons, List.not_mem_nil, or_false] at hi
                      obtain rfl := hi
                      refine wpOp_step rfl (fun K' hK => ?_)
                      go_simp
                      refine hK _ _ ⟨fun _ _ => hS, trivial, ?_⟩
                      clear hK
                      have hcell : (v1.alloc (.cells #[.int .i64 y] 2)).cell? ⟨v1.heap.size, 0, none⟩ = some (.int .i64 y) := by go_simp
                      obtain ⟨v0, hv0⟩ : ∃ v0, v0 = v := ⟨_, rfl⟩
                      subst hv0
                      obtain ⟨b11, hb11⟩ : ∃ b, v1.heap.size = b := ⟨_, rfl⟩
                      obtain ⟨vA, hvA⟩ : ∃ w', v1.alloc (.cells #[.int .i64 y] 2) = w' := ⟨_, rfl⟩
                      rw [hvA] at hS HOW HBA HSZ
                      rw [hvA, hb11] at hcell
                      rw [hvA]
                      try rw [hb11]
                      clear hvA hb11
                      refine anyK_all (n := 3) (rs := [11]) (by kernel_rfl) (by simp) (fun i hi => ?_)
                      simp only [List.mem_cons, List.not_mem_nil, or_false] at hi
                      obtain rfl := hi
                      refine wpOp_step rfl (fun K' hK => ?_)
                      refine step_ap1 rfl (.tmp 79) (.tmp 84) 24 rfl v0.heap.size 2 (.int .i64 0) 8 Try.underlying24 Try.infoI rfl (.slice (some ⟨g2, 0, none⟩) kk c2) kk _ rfl HOW.out b11 (.int .i64 y) rfl hcell rfl (by omega) (by omega) HSZ.out ?_
                      intro v' w6 hown hgrow _
                      obtain ⟨a6, c6, rfl⟩ := own_form hown
                      obtain ⟨g6, hg6⟩ : ∃ g6, a6 = some ⟨g6, 0, none⟩ := by
                        obtain ⟨g6, c7, e⟩ := own_first hown (by omega)
                        injection e with e1 _ _
                        exact ⟨g6, e1⟩
                      subst hg6
                      have hg6b := hown.lt g6 rfl
                      have HB6 := Lib.hid (show Below wr.heap.size wr w6 from bthen HB.out (below_grown HBA.out HOW.out hgrow HSZ.out))
                      have HI6 := Lib.hid (show IsInts w6 (some ⟨g6, 0, none⟩) (kk + 1) (li ++ [y]) from IsInts.of_own (by rw [List.map_append]; exact hown))
                      have hgw : wr.heap.size ≤ g6 := by have := HB.out.size; omega
                      have hgl6 : g6 < w6.heap.size := hg6b.2
                      replace hS := HSA.out _ HB6.out
                      refine hK _ _ ⟨fun _ _ => hS, trivial, ?_⟩
                      clear hK hown hgrow hg6b
                      have hA7 := (Below.refl _ w6).alloc (Nat.le_refl _) (.cells #[.slice (some ⟨g6, 0, none⟩) (kk + 1) c6] 24)
                      have hcell7 : (w6.alloc (.cells #[.slice (some ⟨g6, 0, none⟩) (kk + 1) c6] 24)).cell? ⟨w6.heap.size, 0, none⟩ = some (.slice (some ⟨g6, 0, none⟩) (kk + 1) c6) := by
                        have h := heap_at_new w6 (.cells #[.slice (some ⟨g6, 0, none⟩) (kk + 1) c6] 24)
                        simp only [World.cell?, h]; rfl
                      have HB7 := Lib.hid (bthen HB6.out hA7)
                      have HI7 := Lib.hid (HI6.out.below hA7)
                      have hgl7 : g6 < (w6.alloc (.cells #[.slice (some ⟨g6, 0, none⟩) (kk + 1) c6] 24)).heap.size := Nat.lt_of_lt_of_le hgl6 hA7.size
                      refine anyK_all (n := 2) (rs := [12]) (by kernel_rfl) (by simp) (fun i hi => ?_)
                      simp only [List.mem_cons, List.not_mem_nil, or_false] at hi
                      obtain rfl := hi
                      refine wpOp_step rfl (fun K' hK => ?_)
                      go_simp
                      replace hS := HSA.out _ HB7.out
                      refine hK _ _ ⟨fun _ _ => hS, trivial, ?_⟩
                      clear hK hA7
                      obtain ⟨b12, hb12⟩ : ∃ b, w6.heap.size = b := ⟨_, rfl⟩
                      obtain ⟨vB, hvB⟩ : ∃ w', w6.alloc (.cells #[.slice (some ⟨g6, 0, none⟩) (kk + 1) c6] 24) = w' := ⟨_, rfl⟩
                      rw [hvB] at hS HB7 HI7 hgl7
                      rw [hvB, hb12] at hcell7
                      rw [hvB]
                      try rw [hb12]
                      clear hvB hb12 hgl6
                      obtain ⟨vals, hG, hV⟩ := HGL.out.ret HB7.out
                      rw [HRL.out] at hG
                      have HOV := Lib.hid hG.1
                      have HSV := Lib.hid hG.2.size
                      refine anyK_all (n := 1) (rs := [13]) (by kernel_rfl) (by simp) (fun i hi => ?_)
                      simp only [List.mem_cons, List.not_mem_nil, or_false] at hi
                      obtain rfl := hi
                      refine wpOp_step rfl (fun K' hK => ?_)
                      refine step_ap1 rfl (.tmp 74) (.tmp 86) 84 rfl w2.heap.size 24 (.slice none 0 0) 24 Try.underlying84 Try.infoLL rfl (.slice s n c) n vals rfl HOV.out b12 (.slice (some ⟨g6, 0, none⟩) (kk + 1) c6) rfl hcell7 rfl (by omega) (by omega) HSV.out ?_
                      intro v' w9 hown hgrow hat
                      obtain ⟨a9, c9, rfl⟩ := own_form hown
                      have hGP : GLL w2 w9 (.slice a9 (n + 1) c9) (rM L T i j ++ [li ++ [y]]) := by
                        have hlen : (li ++ [y]).length = kk + 1 := by rw [List.length_append, HKK.out]; rfl
                        refine GLL.push (by rw [HRL.out]; exact hG) hV (g := g6) (c := c6) (by rw [hlen]; exact HI7.out) hgl7 (fun e => by have := HOB.out g6 e.symm; omega) (by rw [HRL.out, hlen]; exact hown) hgrow hat
                      rw [HRS.out] at hGP
                      have HGP := Lib.hid hGP
                      have HT9 := Lib.hid ((HTT.out.below HB7.out).gr hgrow (fun e => HNT.out gT e.symm rfl))
                      have HOB9 := Lib.hid (show ∀ g, (Value.slice a9 (n + 1) c9).ownBlock = some g → g < w9.heap.size ∧ g ≠ gT from fun g e => by
                        refine ⟨(hown.lt g e).2, ?_⟩
                        rcases hat with h | h
                        · rw [h] at e; exact fun h2 => HNT.out g e h2
                        · rw [h] at e
                          injection e with e
                          have h1 := World.block_lt_of_cell? wr _ HCT.out
                          have h2 := HB7.out.size
                          intro h3
                          rw [← e] at h3
                          rw [h3] at h2
                          exact absurd h1 (Nat.not_lt.2 h2))
                      have hS9 : w9.cell? ⟨gl, offl + i, none⟩ = some (.slice (some ⟨bl, ol, none⟩) kk cl) ∧ w9.cell? ⟨gT, j, none⟩ = some (.int .i64 y) := ⟨(GLL.bel hGP).cell (p := ⟨gl, offl + i, none⟩) (World.block_lt_of_cell? w2 _ HCL2.out) |>.trans HCL2.out, by
                        obtain ⟨b', o', e5, hc⟩ := HT9.out.at hjt
                        simp only [Option.some.injEq, Addr.mk.injEq] at e5
                        obtain ⟨rfl, rfl, _⟩ := e5
                        rw [HY.out, Nat.zero_add] at hc
                        exact hc⟩
                      refine hK _ _ ⟨fun _ _ => hS9, trivial, ?_⟩
                      clear hK hown hgrow hat hGP hG hV hcell7 hgl7 hgw hS
                      refine anyK_all (n := 0) (rs := [14]) (by kernel_rfl) (by simp) (fun i hi => ?_)
                      simp only [List.mem_cons, List.not_mem_nil, or_false] at hi
                      obtain rfl := hi
                      refine wpOp_step rfl (fun K' hK => ?_)
                      go_simp
                      refine hK _ _ ⟨(fun h => absurd rfl h), trivial, ?_⟩
                      clear hK hS9
                      refine ⟨by kernel_rfl, ?_⟩
                      go_wp2_with fail
                      go_roundw
                      case rel => exact ⟨j + 1, a9, c9, n + 1, by omega, by go_num, rfl, by omega, Lib.hid (by rw [← HRS.out, List.length_append, HRL.out]; rfl), HGP, HT9, HOB9⟩
                      case measure => simp [intOf] <;> omega
                    · refine wpOp_step rfl (fun K' hK => ?_)
                      go_simp
                      have hA := (Below.refl _ v).alloc (Nat.le_refl _) (.cells #[.int .i64 y] 2)
                      have HAB := Lib.hid hA
                      have hS1 := HSA.out _ (bthen HB.out hA)
                      refine hK _ _ ⟨fun _ _ => hS1, trivial, ?_⟩
                      clear hK hA
                      have hcell0 : (v.alloc (.cells #[.int .i64 y] 2)).cell? ⟨v.heap.size, 0, none⟩ = some (.int .i64 y) := by go_simp
                      have hlt0 : v.heap.size < (v.alloc (.cells #[.int .i64 y] 2)).heap.size := by simp
                      obtain ⟨b11, hb11⟩ : ∃ b, v.heap.size = b := ⟨_, rfl⟩
                      obtain ⟨v0, hv0⟩ : ∃ w', v.alloc (.cells #[.int .i64 y] 2) = w' := ⟨_, rfl⟩
                      rw [hv0] at hS1 HAB hlt0
                      rw [hv0, hb11] at hcell0
                      rw [hb11] at hlt0
                      rw [hv0]
                      try rw [hb11]
                      clear hv0 hb11
                      refine anyK_all (n := 4) (rs := [5]) (by kernel_rfl) (by simp) (fun i hi => ?_)
                      simp only [List.mem_cons, List.not_mem_nil, or_false] at hi
                      obtain rfl := hi
                      refine wpOp_step rfl (fun K' hK => ?_)
                      go_simp
                      refine (ownL_any bl ol kk cl li v0 (by omega) (HLI.out.below (bthen HB.out HAB.out))).mono ?_
                      rintro e v1 ⟨vv, rfl, hg⟩
                      obtain ⟨g2, c2, rfl⟩ := own_first hg.1 (by rw [HKK.out]; omega)
                      rw [HKK.out] at hg ⊢
                      have HOW := Lib.hid hg.1
                      have HG1 := Lib.hid hg.2
                      have HBA := Lib.hid (bthen HAB.out hg.2)
                      have HSZ := Lib.hid hg.2.size
                      have hcell : v1.cell? ⟨b11, 0, none⟩ = some (.int .i64 y) := (hg.2.cell (p := ⟨b11, 0, none⟩) hlt0).trans hcell0
                      replace hS := HSA.out _ (bthen HB.out HBA.out)
                      refine hK _ _ ⟨fun _ _ => hS, trivial, ?_⟩
                      clear hK hg hS1 hcell0 hlt0
                      refine anyK_all (n := 3) (rs := [11]) (by kernel_rfl) (by simp) (fun i hi => ?_)
                      simp only [List.mem_cons, List.not_mem_nil, or_false] at hi
                      obtain rfl := hi
                      refine wpOp_step rfl (fun K' hK => ?_)
                      refine step_ap1 rfl (.tmp 79) (.tmp 84) 24 rfl v0.heap.size 2 (.int .i64 0) 8 Try.underlying24 Try.infoI rfl (.slice (some ⟨g2, 0, none⟩) kk c2) kk _ rfl HOW.out b11 (.int .i64 y) rfl hcell rfl (by omega) (by omega) HSZ.out ?_
                      intro v' w6 hown hgrow _
                      obtain ⟨a6, c6, rfl⟩ := own_form hown
                      obtain ⟨g6, hg6⟩ : ∃ g6, a6 = some ⟨g6, 0, none⟩ := by
                        obtain ⟨g6, c7, e⟩ := own_first hown (by omega)
                        injection e with e1 _ _
                        exact ⟨g6, e1⟩
                      subst hg6
                      have hg6b := hown.lt g6 rfl
                      have HB6 := Lib.hid (show Below wr.heap.size wr w6 from bthen HB.out (bthen HAB.out (below_grown HG1.out HOW.out hgrow HSZ.out)))
                      have HI6 := Lib.hid (show IsInts w6 (some ⟨g6, 0, none⟩) (kk + 1) (li ++ [y]) from IsInts.of_own (by rw [List.map_append]; exact hown))
                      have hgw : wr.heap.size ≤ g6 := by have := HB.out.size; have := HAB.out.size; omega
                      have hgl6 : g6 < w6.heap.size := hg6b.2
                      replace hS := HSA.out _ HB6.out
                      refine hK _ _ ⟨fun _ _ => hS, trivial, ?_⟩
                      clear hK hown hgrow hg6b
                      have hA7 := (Below.refl _ w6).alloc (Nat.le_refl _) (.cells #[.slice (some ⟨g6, 0, none⟩) (kk + 1) c6] 24)
                      have hcell7 : (w6.alloc (.cells #[.slice (some ⟨g6, 0, none⟩) (kk + 1) c6] 24)).cell? ⟨w6.heap.size, 0, none⟩ = some (.slice (some ⟨g6, 0, none⟩) (kk + 1) c6) := by
                        have h := heap_at_new w6 (.cells #[.slice (some ⟨g6, 0, none⟩) (kk + 1) c6] 24)
                        simp only [World.cell?, h]; rfl
                      have HB7 := Lib.hid (bthen HB6.out hA7)
                      have HI7 := Lib.hid (HI6.out.below hA7)
                      have hgl7 : g6 < (w6.alloc (.cells #[.slice (some ⟨g6, 0, none⟩) (kk + 1) c6] 24)).heap.size := Nat.lt_of_lt_of_le hgl6 hA7.size
                      refine anyK_all (n := 2) (rs := [12]) (by kernel_rfl) (by simp) (fun i hi => ?_)
                      simp only [List.mem_cons, List.not_mem_nil, or_false] at hi
                      obtain rfl := hi
                      refine wpOp_step rfl (fun K' hK => ?_)
                      go_simp
                      replace hS := HSA.out _ HB7.out
                      refine hK _ _ ⟨fun _ _ => hS, trivial, ?_⟩
                      clear hK hA7
                      obtain ⟨b12, hb12⟩ : ∃ b, w6.heap.size = b := ⟨_, rfl⟩
                      obtain ⟨vB, hvB⟩ : ∃ w', w6.alloc (.cells #[.slice (some ⟨g6, 0, none⟩) (kk + 1) c6] 24) = w' := ⟨_, rfl⟩
                      rw [hvB] at hS HB7 HI7 hgl7
                      rw [hvB, hb12] at hcell7
                      rw [hvB]
                      try rw [hb12]
                      clear hvB hb12 hgl6
                      obtain ⟨vals, hG, hV⟩ := HGL.out.ret HB7.out
                      rw [HRL.out] at hG
                      have HOV := Lib.hid hG.1
                      have HSV := Lib.hid hG.2.size
                      refine anyK_all (n := 1) (rs := [13]) (by kernel_rfl) (by simp) (fun i hi => ?_)
                      simp only [List.mem_cons, List.not_mem_nil, or_false] at hi
                      obtain rfl := hi
                      refine wpOp_step rfl (fun K' hK => ?_)
                      refine step_ap1 rfl (.tmp 74) (.tmp 86) 84 rfl w2.heap.size 24 (.slice none 0 0) 24 Try.underlying84 Try.infoLL rfl (.slice s n c) n vals rfl HOV.out b12 (.slice (some ⟨g6, 0, none⟩) (kk + 1) c6) rfl hcell7 rfl (by omega) (by omega) HSV.out ?_
                      intro v' w9 hown hgrow hat
                      obtain ⟨a9, c9, rfl⟩ := own_form hown
                      have hGP : GLL w2 w9 (.slice a9 (n + 1) c9) (rM L T i j ++ [li ++ [y]]) := by
                        have hlen : (li ++ [y]).length = kk + 1 := by rw [List.length_append, HKK.out]; rfl
                        refine GLL.push (by rw [HRL.out]; exact hG) hV (g := g6) (c := c6) (by rw [hlen]; exact HI7.out) hgl7 (fun e => by have := HOB.out g6 e.symm; omega) (by rw [HRL.out, hlen]; exact hown) hgrow hat
                      rw [HRS.out] at hGP
                      have HGP := Lib.hid hGP
                      have HT9 := Lib.hid ((HTT.out.below HB7.out).gr hgrow (fun e => HNT.out gT e.symm rfl))
                      have HOB9 := Lib.hid (show ∀ g, (Value.slice a9 (n + 1) c9).ownBlock = some g → g < w9.heap.size ∧ g ≠ gT from fun g e => by
                        refine ⟨(hown.lt g e).2, ?_⟩
                        rcases hat with h | h
                        · rw [h] at e; exact fun h2 => HNT.out g e h2
                        · rw [h] at e
                          injection e with e
                          have h1 := World.block_lt_of_cell? wr _ HCT.out
                          have h2 := HB7.out.size
                          intro h3
                          rw [← e] at h3
                          rw [h3] at h2
                          exact absurd h1 (Nat.not_lt.2 h2))
                      have hS9 : w9.cell? ⟨gl, offl + i, none⟩ = some (.slice (some ⟨bl, ol, none⟩) kk cl) ∧ w9.cell? ⟨gT, j, none⟩ = some (.int .i64 y) := ⟨(GLL.bel hGP).cell (p := ⟨gl, offl + i, none⟩) (World.block_lt_of_cell? w2 _ HCL2.out) |>.trans HCL2.out, by
                        obtain ⟨b', o', e5, hc⟩ := HT9.out.at hjt
                        simp only [Option.some.injEq, Addr.mk.injEq] at e5
                        obtain ⟨rfl, rfl, _⟩ := e5
                        rw [HY.out, Nat.zero_add] at hc
                        exact hc⟩
                      refine hK _ _ ⟨fun _ _ => hS9, trivial, ?_⟩
                      clear hK hown hgrow hat hGP hG hV hcell7 hgl7 hgw hS
                      refine anyK_all (n := 0) (rs := [14]) (by kernel_rfl) (by simp) (fun i hi => ?_)
                      simp only [List.mem_cons, List.not_mem_nil, or_false] at hi
                      obtain rfl := hi
                      refine wpOp_step rfl (fun K' hK => ?_)
                      go_simp
                      refine hK _ _ ⟨(fun h => absurd rfl h), trivial, ?_⟩
                      clear hK hS9
                      refine ⟨by kernel_rfl, ?_⟩
                      go_wp2_with fail
                      go_roundw
                      case rel => exact ⟨j + 1, a9, c9, n + 1, by omega, by go_num, rfl, by omega, Lib.hid (by rw [← HRS.out, List.length_append, HRL.out]; rfl), HGP, HT9, HOB9⟩
                      case measure => simp [intOf] <;> omega
                  · obtain rfl : j = nt := by omega
                    have hji : ¬ (j : Int) < (j : Int) := by omega
                    have HAL := Lib.hid (show rM L T i j = rN L T (i + 1) by rw [← HTL.out]; exact rM_all (by rw [HLL.out.1]; exact hil))
                    rw [HAL.out] at HRL HGL
                    go_wp2_with fail
                    go_roundw
                    case rel => exact ⟨i + 1, s, c, n, by omega, by go_num, rfl, hn, HRL, HGL, HTT, HOBB⟩
                    case measure => simp [intOf] <;> omega
              · obtain rfl : i = nl := by omega
                have hii : ¬ (i : Int) < (i : Int) := by omega
                have HAL := Lib.hid (show rN L T i = rL a m (x : Int) (k + 1) by
                  have h1 := HLL.out.1
                  rw [← h1, rN_all, ← HL.out, ← HT.out]; rfl)
                rw [HAL.out] at HRL HGL
                have HLN := Lib.hid (HGL.out.read HRL.out)
                have HBN := Lib.hid (bthen HB12.out HGL.out.bel)
                go_wp2_with fail
                go_roundw
                case rel => exact ⟨k + 1, p2, s, n, c, by go_num, rfl, rfl, by omega, HP2, HLN, HBN⟩
                case measure => simp [intOf] <;> omega
          · have hki : ¬ ((k + 1 : Nat) : Int) < (D : Int) := by omega
            have hDk : D = k + 1 := by omega
            have hk1 : 1 ≤ k := by omega
            have hk3 : k ≤ 3 := by omega
            have HDK := Lib.hid hDk
            clear hDk
            obtain ⟨w5, hw5⟩ : ∃ x, x = wr := ⟨_, rfl⟩
            subst hw5
            have HCR5 := Lib.hid (HCR1.out.below HB12.out)
            have HB5 := Lib.hid (bthen HBW1.out HB12.out)
            have HG5 := Lib.hid (HG3.out.all HB12.out)
            have HLEN := Lib.hid (fun l hl => (rL_try (a := a) (m := m) (x := (x : Int)) k l hl).len)
            have HSML := Lib.hid (fun l hl => rL_sm (a := a) (m := m) (x := (x : Int)) (k := k) (by omega) (by omega) (by omega) (l := l) hl)
            obtain ⟨L, hL⟩ : ∃ L, rL a m (x : Int) k = L := ⟨_, rfl⟩
            have hLL := HLL
            rw [hL] at HLL
            have HL := Lib.hid hL
            have HFI0 := Lib.hid (show FoldI a m D (L.take 0) c c by rw [List.take_zero]; exact FoldI.start HC0.out.1)
            have hnl9 : nl ≤ 9 := by
              have h1 := (rL_len (a := a) (m := m) (x := (x : Int)) k).2
              rw [hLL.out.1] at h1
              have : 3 ^ k ≤ 3 ^ 2 := Nat.pow_le_pow_right (by omega) (by omega)
              omega
            clear hL hLL
            go_wp2_with fail
            go_loopw [15, 6] (fun v15 v6 wr => ∃ (i : Nat) (c' : List Int) (ab' : Option Addr) (nb' cb' : Nat), i ≤ nl ∧ v15 = .int .i64 (i : Nat) ∧ v6 = .slice ab' nb' cb' ∧ Hid (c'.length = nb') ∧ Hid (FoldI a m D (L.take i) c c') ∧ Hid (SmL c') ∧ Hid (IsInts wr ab' nb' c') ∧ Hid (Below w5.heap.size w5 wr)) (fun v15 _ _ => nl - (intOf v15).toNat)
            case atStart => exact ⟨0, c, ab, nb, cb, Nat.zero_le _, rfl, rfl, Lib.hid HC0.out.2.1, HFI0, Lib.hid HC0.out.2.2, HCR5, Lib.hid (Below.refl _ _)⟩
            case round =>
              clear HFI0
              obtain ⟨i, c', ab', nb', cb', hi, rfl, rfl, HNB, HFI, HSMC, HCR, HBB⟩ := hrel
              by_cases hil : i < nl
              · have hii : (i : Int) < (nl : Int) := by omega
                have hi0 : (0 : Int) ≤ (i : Int) := by omega
                obtain ⟨gl, offl, aj, cl, e7, hcl, hli⟩ := HLL.out.2 i hil
                subst e7
                have hmem : L.getD i [] ∈ L := by
                  rw [List.getD, List.getElem?_eq_getElem (show i < L.length by rw [HLL.out.1]; exact hil)]; exact List.getElem_mem _
                have HTK := Lib.hid (show L.take i ++ [L.getD i []] = L.take (i + 1) by
                  have h1 : i < L.length := by rw [HLL.out.1]; exact hil
                  rw [List.take_succ_eq_append_getElem h1, List.getD, List.getElem?_eq_getElem h1]; rfl)
                obtain ⟨li, hlie⟩ : ∃ li, L.getD i [] = li := ⟨_, rfl⟩
                rw [hlie] at hmem hcl hli HTK
                have hmem2 : li ∈ rL a m (x : Int) k := by rw [HL.out]; exact hmem
                have hlen := HLEN.out li hmem2
                have hsm := HSML.out li hmem2
                have htry := rL_try k li hmem2
                have HST := Lib.hid (show FoldI a m D (L.take (i + 1)) c (bestT c' li) by
                  have eD := HDK.out
                  rw [← HTK.out]
                  have hfi := HFI.out
                  have hcc := HC0.out.1
                  rw [eD] at hfi hcc ⊢
                  refine hfi.step (by rcases hcc with h | h; exact Or.inl h; exact Or.inr h.len) (fun y hy => ?_) hmem2
                  refine HLEN.out y ?_
                  rw [HL.out]
                  exact List.mem_of_mem_take hy)
                have hl2 := hli.below HBB.out
                have cc := (HBB.out.cell (p := ⟨gl, offl + i, none⟩) (World.block_lt_of_cell? w5 _ hcl)).trans hcl
                have HLI := Lib.hid hl2
                have HSM := Lib.hid (And.intro hsm htry.pt)
                rw [hlen] at cc HLI
                have HLE := Lib.hid hlen
                have hsq0 := sqL_nonneg li
                have HSQ := Lib.hid (fun w a cap h => squares_any a (k + 1) cap li w h hsm)
                have HBT : bestT c' li = if 0 < sqL li then bestR c' li else c' := rfl
                obtain ⟨sq, hsq⟩ : ∃ q, sqL li = q := ⟨_, rfl⟩
                rw [hsq] at HSQ HBT hsq0
                have HBTT := Lib.hid HBT
                clear hlie hmem hmem2 hlen hsm htry hl2 hcl hli HBT hsq
                go_wp2_with fail
                refine (HSQ.out _ _ cl HLI.out).mono ?_
                rintro e w6 ⟨rfl, hb⟩
                have H6 := Lib.hid (And.intro (bthen HBB.out hb) (And.intro (HLI.out.below hb) (HCR.out.below hb)))
                have cc6 := (hb.cell (p := ⟨gl, offl + i, none⟩) (World.block_lt_of_cell? wr _ cc)).trans cc
                clear hb cc
                by_cases hpos : 0 < sq
                · have HE := Lib.hid (show bestT c' li = bestR c' li by rw [HBTT.out, if_pos hpos])
                  go_wp2_with fail
                  refine (holds_any b3 m a ad aj (k + 1) cl li w6 (by omega) (by omega) (HG5.out.all H6.out.1) H6.out.2.1 HSM.out.1 HSM.out.2).mono ?_
                  rintro e w7 ⟨rfl, hb⟩
                  have H7 := Lib.hid (And.intro (bthen H6.out.1 hb) (And.intro (H6.out.2.1.below hb) (H6.out.2.2.below hb)))
                  have cc7 := (hb.cell (p := ⟨gl, offl + i, none⟩) (World.block_lt_of_cell? w6 _ cc6)).trans cc6
                  clear hb cc6
                  have HBS := Lib.hid (show Calls Try.prog 56 #[.slice ab' nb' cb', .slice aj (k + 1) cl] w7 (RdL w7 (bestT c' li)) by
                    rw [HE.out, ← HNB.out, ← HLE.out]
                    refine best_any ab' aj cb' cl c' li w7 (by rw [HNB.out]; exact H7.out.2.2) (by rw [HLE.out]; exact H7.out.2.1) HSMC.out HSM.out.1 ?_
                    rcases HFI.out.kd with h | h
                    · exact Or.inl h
                    · exact Or.inr (by rw [h.len, HLE.out]; exact HDK.out))
                  have HSN := Lib.hid (show SmL (bestT c' li) by
                    rw [HE.out]; unfold bestR
                    split
                    · exact sgn_sm HSM.out.1
                    · split
                      · exact sgn_sm HSM.out.1
                      · exact HSMC.out)
                  go_wp2_with fail
                  refine HBS.out.mono ?_
                  rintro e w8 ⟨a8, c8, rfl, h8, hb⟩
                  have H8 := Lib.hid (And.intro h8 (bthen H7.out.1 hb))
                  obtain ⟨n8, hn8⟩ : ∃ n, (bestT c' li).length = n := ⟨_, rfl⟩
                  rw [hn8] at H8 ⊢
                  have HN8 := Lib.hid hn8
                  clear h8 hb hn8
                  go_wp2_with fail
                  go_roundw
                  case rel => exact ⟨i + 1, bestT c' li, a8, n8, c8, by omega, by go_num, rfl, HN8, HST, HSN, Lib.hid H8.out.1, Lib.hid H8.out.2⟩
                  case measure => simp [intOf] <;> omega
                · have HE := Lib.hid (show bestT c' li = c' by rw [HBTT.out, if_neg hpos])
                  have HST2 := HST
                  rw [HE.out] at HST2
                  go_wp2_with fail
                  go_roundw
                  case rel => exact ⟨i + 1, c', ab', nb', cb', by omega, by go_num, rfl, HNB, HST2, HSMC, Lib.hid H6.out.2.2, Lib.hid H6.out.1⟩
                  case measure => simp [intOf] <;> omega
              · obtain rfl : i = nl := by omega
                have hii : ¬ (i : Int) < (i : Int) := by omega
                have HFF := Lib.hid (show FoldI a m D (rL a m (x : Int) k) c c' by
                  have h1 := HFI.out
                  rw [List.take_of_length_le (by rw [HLL.out.1]; exact Nat.le_refl _)] at h1
                  rw [HL.out]; exact h1)
                have HPN := Lib.hid (show PtR a m D c' (x + 1) by
              have eD := HDK.out
              have h1 := HPR.out
              have h2 := HFF.out
              rw [eD] at h1 h2 ⊢
              exact PtR.step (by omega) hk1 h1 h2)
                have HBE := Lib.hid (bthen HB5.out HBB.out)
                go_wp2_with fail
                go_roundw
                case rel => exact ⟨x + 1, c', ab', nb', cb', by go_num, by first | omega | (have := HX0.out; omega), rfl, HNB, HCR, HBE, HPN, Lib.hid (Or.inr (by omega)), HSMC⟩
                case measure => simp [intOf] <;> omega
      · have HBEST := Lib.hid (best_first (c := c) (x := (x : Int)) (by omega) HK.out.1 hx0 (by rw [HQ.out.1, HQ.out.2]; omega) (fun i hi => HK.out.2.2 i (by omega)))
        have HF := Lib.hid (show IsInts w0 ab D c by rw [← HND.out]; exact HCR.out.below HB0.out)
        have HFB := Lib.hid (bthen HBW.out HB0.out)
        go_wp2_with fail
        go_ret
        exact ⟨c, ab, cb, by rw [HND.out]; rfl, HF.out, HFB.out, HBEST.out⟩
end Go.Proofs.Ytpineiocjaajnaa

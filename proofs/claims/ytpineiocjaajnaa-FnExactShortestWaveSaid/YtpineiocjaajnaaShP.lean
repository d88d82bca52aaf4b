import Derived.Test.YtpineiocjaajnaaShO
import Derived.Test.YtpineiocjaajnaaAnyK
import Derived.Deep.CutBlock
/- The shortest point: the program's search. Condition: the modulus is from 2 to 100000. -/
namespace Go.Proofs.Ytpineiocjaajnaa
open Go.RowKit
set_option linter.unusedVariables false

theorem Gx.cell {w w' : World} {b : Nat} (h : Gx w w' b) {p : Addr} {v : Value} (hc : w.cell? p = some v) (hne : p.block ≠ b) : w'.cell? p = some v := by
  have hl := World.block_lt_of_cell? w _ hc
  rw [World.cell?_of_block (h.block p.block hl (fun e => hne (by simpa using e)))]
  exact hc
theorem ofO_some (c v : List Int) : ofO (some c) v = some (ofB c v) := by
  unfold ofO ofB
  cases hp : posL v <;> cases hb : btB v c <;> simp [hb]
theorem sm_of_sq {xs : List Int} {m : Int} (h : sqL xs ≤ m * m) (hm : 0 ≤ m ∧ m ≤ 1000000) (hl : xs.length ≤ 4) : SmL xs := by
  refine ⟨hl, fun j => ?_⟩
  by_cases hj : j < xs.length
  · have h1 := sq_mem (l := xs) (x := xs.getD j 0) (by rw [getD_eq _ _ hj]; exact List.getElem_mem _)
    generalize xs.getD j 0 = x at h1 ⊢
    have : ¬ m.natAbs < x.natAbs := fun h2 => by have := sq_lt (x := m) (y := x) h2; omega
    omega
  · rw [List.getD, List.getElem?_eq_none (by omega)]; simp
/-- What the search keeps. -/
structure PtI (w1 wr : World) (B bx D : Nat) (a m : Int) (c0 c : List Int) : Prop where
  sl : SlO wr B bx D (some c)
  gx : Gx w1 wr bx
  kd : IsPt a m D c
  ge : geB c c0
/-- The congruence in its block. -/
def Box3 (w : World) (bb : Nat) (m a ad : Int) : Prop := w.cell? ⟨bb, 0, none⟩ = some (.int .i64 m) ∧ w.cell? ⟨bb, 1, none⟩ = some (.int .i64 a) ∧ w.cell? ⟨bb, 2, none⟩ = some (.int .i64 ad)
theorem Box3.gx {w w' : World} {bb b : Nat} {m a ad : Int} (h : Box3 w bb m a ad) (hg : Gx w w' b) (hne : bb ≠ b) : Box3 w' bb m a ad :=
  ⟨hg.cell h.1 hne, hg.cell h.2.1 hne, hg.cell h.2.2 hne⟩
theorem Box3.new (w : World) (t : Nat) (m a ad : Int) : Box3 (w.alloc (.cells #[.int .i64 m, .int .i64 a, .int .i64 ad] t (0, 0))) w.heap.size m a ad := by
  have h := heap_at_new w (.cells #[.int .i64 m, .int .i64 a, .int .i64 ad] t (0, 0))
  refine ⟨?_, ?_, ?_⟩ <;> simp only [World.cell?, h] <;> rfl
theorem PtI.box {w1 wr : World} {B bx D bb : Nat} {a m ad : Int} {c0 c : List Int} (h : PtI w1 wr B bx D a m c0 c) (hb : Box3 w1 bb m a ad) (hne : bb ≠ bx) : Box3 wr bb m a ad := hb.gx h.gx hne
/-- What points leaves. -/
def RetPt (w : World) (B bx D : Nat) (a m : Int) (c b : List Int) (e : Ending) (w' : World) : Prop := e = .returned (.tuple #[]) ∧ ∃ c2, SlO w' B bx D (some c2) ∧ Gx w w' bx ∧ IsPt a m D c2 ∧ geB c2 c ∧ Seen (IsPt a m D) c2 b
def PtsC (P : Program) (f : Nat) (B bx D : Nat) (a m ad : Int) (r : Nat) : Prop := ∀ (b0 : List Int) (l : Int) (c : List Int) (g off cap : Nat) (w : World), B ≤ w.heap.size → r + (b0.length + 1) = D → SlO w B bx D (some c) → IsPt a m D c → sqL c ≤ m * m →
  IsInts w (some ⟨g, off, none⟩) (b0.length + 1) (b0 ++ [l]) → g ≠ bx → ptL a m (b0 ++ [l]) → sqL (b0 ++ [l]) ≤ m * m →
  Calls P f #[.pointer (some ⟨bx, 0, none⟩), .agg #[.int .i64 m, .int .i64 a, .int .i64 ad], .int .i64 (D : Nat), .slice (some ⟨g, off, none⟩) (b0.length + 1) cap, .int .i64 (sqL (b0 ++ [l]))] w (RetPt w B bx D a m c (b0 ++ [l]))
set_option maxRecDepth 100000 in
theorem points_zero (B bx D : Nat) (a m ad : Int) (hm : 2 ≤ m ∧ m ≤ 100000) (hD : 1 ≤ D) (hD4 : D ≤ 4) : PtsC Try.prog 32 B bx D a m ad 0 := by
  intro b0 l c g off cap w hB hr hs hk hc hx hg hp hq
  have hkD : b0.length + 1 = D := by omega
  rw [hkD] at hx ⊢
  have hA := (Below.refl _ w).alloc (Nat.le_refl _) (.cells #[.int .i64 m, .int .i64 a, .int .i64 ad] 27)
  have HOF := Lib.hid (offer_any B bx D (some c) g off cap (b0 ++ [l]) (w.alloc (.cells #[.int .i64 m, .int .i64 a, .int .i64 ad] 27)) (Nat.le_trans hB hA.size) (hs.all hA) (hx.below hA) (sm_of_sq hq (by omega) (by have := hx.1; omega)) (fun c' e => by injection e with e; subst e; exact ⟨sm_of_sq hc (by omega) (by rw [hk.len]; omega), hk.len⟩) hD hD4)
  rw [ofO_some] at HOF
  have HR := Lib.hid (show IsPt a m D (ofB c (b0 ++ [l])) ∧ geB (ofB c (b0 ++ [l])) c ∧ Seen (IsPt a m D) (ofB c (b0 ++ [l])) (b0 ++ [l]) from ⟨ofB_kind hk (by rw [hx.1]) hp, ofB_ge _ _, Seen.full (by rw [hx.1]) (fun h => ofB_geV h)⟩)
  have HA := Lib.hid hA
  obtain ⟨s0, hs0⟩ : ∃ s, sqL (b0 ++ [l]) = s := ⟨_, rfl⟩
  rw [hs0]
  clear hs hk hc hx hg hp hq hA hs0
  go_enter Try.func32, Try.ntmps32
  go_wp2_with fail
  refine HOF.out.mono ?_
  rintro e w' ⟨rfl, hsl, hgx⟩
  have HE := Lib.hid (And.intro hsl ((Gx.below HA.out).trans hgx))
  clear hsl hgx
  go_wp2_with fail
  go_end0
  exact ⟨rfl, _, HE.out.1, HE.out.2, HR.out.1, HR.out.2.1, HR.out.2.2⟩
set_option maxRecDepth 100000 in
set_option maxHeartbeats 3200000 in
theorem points_succ (B bx D : Nat) (a m ad : Int) (r : Nat) (hm : 2 ≤ m ∧ m ≤ 100000) (ha : 0 ≤ a ∧ a < m) (hD : 1 ≤ D) (hD4 : D ≤ 4) (ih : PtsC Try.prog 32 B bx D a m ad r) : PtsC Try.prog 32 B bx D a m ad (r + 1) := by
  intro b0 l c0 g off cap w hB hr hs hk hc hx hg hp hq
  have hxl := hx.1
  have HK1 := Lib.hid (show (b0 ++ [l]).length = b0.length + 1 from hxl)
  obtain ⟨k, hkk⟩ : ∃ k, b0.length + 1 = k := ⟨_, rfl⟩
  rw [hkk] at hx hr HK1 ⊢
  have hk1 : 1 ≤ k := by omega
  have hk4 : k ≤ 4 := by omega
  have hkD : ¬ (k : Int) = (D : Int) := by omega
  have hkb : ((k : Int) == (D : Int)) = false := by rw [beq_eq_false_iff_ne]; omega
  have hbxl := hs.lt
  have hA := (Below.refl _ w).alloc (Nat.le_refl _) (.cells #[.int .i64 m, .int .i64 a, .int .i64 ad] 27)
  have hbne : w.heap.size ≠ bx := by omega
  have HB0 := Lib.hid (Box3.new w 27 m a ad)
  have HBG1 := Lib.hid (hx.below hA)
  have HLTa := Lib.hid (show bx < w.heap.size from hbxl)
  have hcell : ∃ b o, (some ⟨g, off, none⟩ : Option Addr) = some ⟨b, o, none⟩ ∧ (w.alloc (.cells #[.int .i64 m, .int .i64 a, .int .i64 ad] 27)).cell? ⟨b, o + (k - 1), none⟩ = some (.int .i64 ((b0 ++ [l]).getD (k - 1) 0)) := HBG1.out.2 (k - 1) (by omega)
  obtain ⟨g', off', e5, cc⟩ := hcell
  simp only [Option.some.injEq, Addr.mk.injEq] at e5
  obtain ⟨rfl, rfl, _⟩ := e5
  have hlast : (b0 ++ [l]).getD (k - 1) 0 = l := by
    rw [List.getD, List.getElem?_append_right (by omega), show k - 1 - b0.length = 0 by omega]; rfl
  rw [hlast] at cc
  have HPI0 := Lib.hid (show PtI (w.alloc (.cells #[.int .i64 m, .int .i64 a, .int .i64 ad] 27)) (w.alloc (.cells #[.int .i64 m, .int .i64 a, .int .i64 ad] 27)) B bx D a m c0 c0 from ⟨hs.all hA, Gx.refl _ _, hk, geB_refl _⟩)
  have HC0 := Lib.hid hk
  have HGA := Lib.hid (show Gx w (w.alloc (.cells #[.int .i64 m, .int .i64 a, .int .i64 ad] 27)) bx from Gx.below hA)
  have HBW1 := Lib.hid (show B ≤ w.heap.size from hB)
  have HIH := Lib.hid ih
  have HPT0 := Lib.hid hp
  have HC := Lib.hid hc
  have HGN := Lib.hid hg
  have hm0 : 0 < m := by omega
  have hlb : -1000000 ≤ l ∧ l ≤ 1000000 := by
    have := (sm_of_sq hq (by omega) (by omega)).2 (k - 1)
    rwa [hlast] at this
  have h1 := Int.emod_nonneg l (show m ≠ 0 by omega)
  have h2 := Int.emod_lt_of_pos l hm0
  obtain ⟨u, hu⟩ : ∃ u, l % m = u := ⟨_, rfl⟩
  rw [hu] at h1 h2
  have hau : 0 ≤ a * u ∧ a * u ≤ 100000 * 100000 := ⟨Int.mul_nonneg ha.1 h1, Int.mul_le_mul (by omega) (by omega) h1 (by omega)⟩
  obtain ⟨t, ht⟩ : ∃ t, a * u = t := ⟨_, rfl⟩
  rw [ht] at hau
  have htw : IntKind.i64.wrap t = t := IntWalk.i64_in _ (by omega)
  have hf1 := Int.emod_nonneg t (show m ≠ 0 by omega)
  have hf2 := Int.emod_lt_of_pos t hm0
  have HF1 := Lib.hid (fun w => floorMod_any l m w hm0 (by omega))
  have HF2 := Lib.hid (fun w => floorMod_any t m w hm0 (by omega))
  rw [hu] at HF1
  obtain ⟨f, hf⟩ : ∃ f, t % m = f := ⟨_, rfl⟩
  rw [hf] at hf1 hf2 HF2
  have hfm : (f - a * l) % m = 0 := by
    apply Int.emod_eq_zero_of_dvd
    have d1 : m ∣ t - f := by
      have := Int.emod_add_mul_ediv t m
      exact ⟨t / m, by omega⟩
    have d2 : m ∣ l - u := by
      have := Int.emod_add_mul_ediv l m
      exact ⟨l / m, by omega⟩
    have e : f - a * l = -(t - f) - a * (l - u) := by rw [Int.mul_sub, ht]; omega
    rw [e]
    exact Int.dvd_sub (Int.dvd_neg.2 d1) (Int.dvd_trans d2 (Int.dvd_mul_left _ _))
  have HFM := Lib.hid hfm
  have hlw : IntKind.i64.wrap (((k : Nat) : Int) - 1) = ((k - 1 : Nat) : Int) := by rw [IntWalk.i64_in _ (by omega)]; omega
  have hl0 : (0 : Int) ≤ ((k - 1 : Nat) : Int) := by omega
  have hl1 : ((k - 1 : Nat) : Int) < (k : Int) := by omega
  obtain ⟨k2, hk2⟩ : ∃ k2, k - 1 = k2 := ⟨_, rfl⟩
  rw [hk2] at cc hlw hl0 hl1
  obtain ⟨s0, hs0⟩ : ∃ s, sqL (b0 ++ [l]) = s := ⟨_, rfl⟩
  rw [hs0] at hq ⊢
  have hs00 : 0 ≤ s0 := by rw [← hs0]; exact sqL_nonneg _
  have HS0 := Lib.hid hs0
  have HKK := Lib.hid hkk
  have hmm : m * m ≤ 10000000000 := Int.mul_le_mul (b := m) (d := 100000) (a := m) (c := 100000) (by omega) (by omega) (by omega) (by omega)
  have HMM := Lib.hid (And.intro hq hmm)
  have hsb : s0 ≤ 10000000000 := by omega
  have hr2 : r + (k + 1) = D := by omega
  have HR2 := Lib.hid hr2
  obtain ⟨bb, hbb⟩ : ∃ b, w.heap.size = b := ⟨_, rfl⟩
  rw [hbb] at hbne HB0
  have HBB := Lib.hid hbb
  clear hs hk hc hx hg hp hq hA hs0 hkk hmm hu hf hfm hlast hk2 hxl hr2 hr ih hbxl
  go_enter Try.func32, Try.ntmps32
  go_wp2_with fail
  obtain ⟨W, hW⟩ : ∃ x, w.alloc (.cells #[.int .i64 m, .int .i64 a, .int .i64 ad] 27) = x := ⟨_, rfl⟩
  rw [hW] at cc HPI0 HB0 HBG1 HGA ⊢
  clear hW
  obtain ⟨y0, y1, y2⟩ := HB0.out
  go_quiet ((go_at_call 61; (first | (with_reducible exact Calls.quiet_of_same (HF1.out _)) | (with_reducible exact Calls.quiet_of_same (HF2.out _)))))
  clear ht
  have HPI1 := Lib.hid (show PtI (W.drewN nq) (W.drewN nq) B bx D a m c0 c0 from ⟨HPI0.out.sl.all (drewN_below _ nq), Gx.refl _ _, HPI0.out.kd, HPI0.out.ge⟩)
  have HB1 := Lib.hid (show Box3 (W.drewN nq) bb m a ad from HB0.out.gx (Gx.below (b := bx) (drewN_below _ nq)) hbne)
  have HBG0 := Lib.hid (HBG1.out.below (drewN_below _ nq))
  have HGA1 := Lib.hid (HGA.out.trans (Gx.below (drewN_below _ nq)))
  obtain ⟨w1, hw1⟩ : ∃ x, W.drewN nq = x := ⟨_, rfl⟩
  rw [hw1] at HPI1 HB1 HBG0 HGA1 ⊢
  clear hw1 HPI0 HB0 HBG1 HGA cc y0 y1 y2
  have HB0 := HB1
  clear HB1
  have HBW0 := Lib.hid (show B ≤ w1.heap.size from Nat.le_trans HBW1.out HGA1.out.size)
  go_wp2_with fail
  go_loopw [11] (fun v11 wr => ∃ (j : Nat) (x : Int) (c' : List Int), v11 = .int .i64 x ∧ 0 ≤ x ∧ x ≤ 200000 ∧ Hid (x = f + m * (j : Int)) ∧ Hid (PtI w1 wr B bx D a m c0 c') ∧ Hid (∀ i : Nat, i < j → Seen (IsPt a m D) c' (b0 ++ [l] ++ [f + m * (i : Int)]))) (fun v11 _ => (300000 - intOf v11).toNat)
  case atStart => exact ⟨0, f, c0, rfl, hf1, by omega, Lib.hid (by simp), HPI1, Lib.hid (fun i hi => absurd hi (Nat.not_lt_zero i))⟩
  case round =>
    clear HPI1
    obtain ⟨j, x, c', rfl, hx0, hx1, HXX, HPI, HSN⟩ := hrel
    have HSC := Lib.hid (show sqL c' ≤ m * m from Int.le_trans (geB_sq HPI.out.ge) HC.out)
    have hsum := HPI.out.sl.sum
    have hscb : 0 ≤ sqL c' ∧ sqL c' ≤ 10000000000 := ⟨sqL_nonneg _, Int.le_trans HSC.out HMM.out.2⟩
    have hqb : 0 ≤ x * x ∧ x * x ≤ 40000000000 := ⟨sq_nn x, Int.mul_le_mul (b := x) (d := 200000) (a := x) (c := 200000) hx1 hx1 hx0 (by omega)⟩
    have hxm : x * x ≤ 10000000000 → x ≤ 100000 := fun h => by
      by_cases h1 : 100000 < x
      · have := sq_lt (x := 100000) (y := x) (by omega)
        omega
      · omega
    have HBX := Lib.hid (show Box3 wr bb m a ad from HB0.out.gx HPI.out.gx hbne)
    have HBG := Lib.hid (HBG0.out.gx HPI.out.gx HGN.out)
    have HBW := Lib.hid (show B ≤ wr.heap.size from Nat.le_trans HBW0.out HPI.out.gx.size)
    have HLT := Lib.hid HPI.out.sl.lt
    obtain ⟨y0, y1, y2⟩ := HBX.out
    obtain ⟨q, hq⟩ : ∃ q, x * x = q := ⟨_, rfl⟩
    obtain ⟨sc, hsc⟩ : ∃ q, sqL c' = q := ⟨_, rfl⟩
    rw [hq] at hqb hxm
    rw [hsc] at hsum hscb
    have HQ := Lib.hid (And.intro hq hsc)
    have hqw : IntKind.i64.wrap q = q := IntWalk.i64_in _ (by omega)
    have hsqw : IntKind.i64.wrap (s0 + q) = s0 + q := IntWalk.i64_in _ (by omega)
    clear hsc
    by_cases hle : s0 + q ≤ sc
    · have hxm2 := hxm (by omega)
      have hxw : IntKind.i64.wrap (x + m) = x + m := IntWalk.i64_in _ (by omega)
      have HSX := Lib.hid (show sqL (b0 ++ [l] ++ [x]) = s0 + q by rw [sqL_push, HS0.out, HQ.out.1])
      have HSQ := Lib.hid (show sqL (b0 ++ [l] ++ [x]) ≤ m * m by rw [HSX.out]; have := HSC.out; have := HQ.out.2; omega)
      have HPT := Lib.hid (show ptL a m (b0 ++ [l] ++ [x]) from ptL_push HPT0.out (by
        have h1 := HFM.out
        have e : x - a * l = (f - a * l) + m * (j : Int) := by rw [HXX.out]; omega
        rw [e, Int.add_mul_emod_self_left]; exact h1))
      have HLEN := Lib.hid (show r + ((b0 ++ [l]).length + 1) = D by rw [HK1.out]; exact HR2.out)
      have HXN := Lib.hid (show x + m = f + m * ((j + 1 : Nat) : Int) by rw [HXX.out, Int.natCast_add, Int.mul_add]; omega)
      clear hxm
      go_wp2_with fail
      have HSA : Hid (∀ w', Below wr.heap.size wr w' → w'.cell? ⟨bb, 0, none⟩ = some (.int .i64 m) ∧ w'.cell? ⟨bb, 1, none⟩ = some (.int .i64 a) ∧ w'.cell? ⟨bb, 2, none⟩ = some (.int .i64 ad)) := Lib.hid (fun w' hb => ⟨(hb.cell (p := ⟨bb, 0, none⟩) (World.block_lt_of_cell? wr _ HBX.out.1)).trans HBX.out.1, (hb.cell (p := ⟨bb, 1, none⟩) (World.block_lt_of_cell? wr _ HBX.out.2.1)).trans HBX.out.2.1, (hb.cell (p := ⟨bb, 2, none⟩) (World.block_lt_of_cell? wr _ HBX.out.2.2)).trans HBX.out.2.2⟩)
      have HB := Lib.hid ((Below.refl wr.heap.size wr).drew)
      have hS := HSA.out _ HB.out
      refine wp_region_any (by kernel_rfl) (any_of_K (k := 13) (S := fun w' => w'.cell? ⟨bb, 0, none⟩ = some (.int .i64 m) ∧ w'.cell? ⟨bb, 1, none⟩ = some (.int .i64 a) ∧ w'.cell? ⟨bb, 2, none⟩ = some (.int .i64 ad)) (T := fun _ => True) _ _ _ _ ?_)
      change anyK _ _ _ _ _ _ _ _ _ _ (World.drew wr)
      obtain ⟨v, hv⟩ : ∃ w', wr.drew = w' := ⟨_, rfl⟩
      rw [hv] at HB hS ⊢
      clear hv
      refine anyT_take (i := 0) (n := 13) (v := .pointer (some ⟨bx, 0, none⟩)) rfl (by decide) (by kernel_rfl) (by kernel_rfl) (by kernel_rfl) (fun _ _ _ h => h) (Or.inl ⟨by kernel_rfl, fun w' hw => by go_simp⟩) hS trivial ?_
      refine anyK_take (i := 1) (n := 12) (v := .agg #[.int .i64 m, .int .i64 a, .int .i64 ad]) rfl rfl (by kernel_rfl) (by kernel_rfl) (by kernel_rfl) (by kernel_rfl) (by kernel_rfl) (fun _ _ _ h => h) (Or.inl ⟨by kernel_rfl, fun w' hw => by (obtain ⟨z0, z1, z2⟩ := hw; go_simp)⟩) hS trivial ?_
      refine anyT_take (i := 2) (n := 11) (v := .int .i64 (D : Nat)) rfl (by decide) (by kernel_rfl) (by kernel_rfl) (by kernel_rfl) (fun _ _ _ h => h) (Or.inl ⟨by kernel_rfl, fun w' hw => by go_simp⟩) hS trivial ?_
      refine anyT_take (i := 3) (n := 10) (v := .slice (some ⟨g, off, none⟩) k cap) rfl (by decide) (by kernel_rfl) (by kernel_rfl) (by kernel_rfl) (fun _ _ _ h => h) (Or.inl ⟨by kernel_rfl, fun w' hw => by go_simp⟩) hS trivial ?_
      refine anyT_take (i := 5) (n := 9) (v := .int .i64 x) rfl (by decide) (by kernel_rfl) (by kernel_rfl) (by kernel_rfl) (fun _ _ _ h => h) (Or.inl ⟨by kernel_rfl, fun w' hw => by go_simp⟩) hS trivial ?_
      refine anyT_take (i := 8) (n := 8) (v := .int .i64 s0) rfl (by decide) (by kernel_rfl) (by kernel_rfl) (by kernel_rfl) (fun _ _ _ h => h) (Or.inl ⟨by kernel_rfl, fun w' hw => by go_simp⟩) hS trivial ?_
      refine anyT_take (i := 9) (n := 7) (v := .int .i64 x) rfl (by decide) (by kernel_rfl) (by kernel_rfl) (by kernel_rfl) (fun _ _ _ h => h) (Or.inl ⟨by kernel_rfl, fun w' hw => by go_simp⟩) hS trivial ?_
      refine anyT_take (i := 10) (n := 6) (v := .int .i64 x) rfl (by decide) (by kernel_rfl) (by kernel_rfl) (by kernel_rfl) (fun _ _ _ h => h) (Or.inl ⟨by kernel_rfl, fun w' hw => by go_simp⟩) hS trivial ?_
      refine anyT_take (i := 11) (n := 5) (v := .int .i64 q) rfl (by decide) (by kernel_rfl) (by kernel_rfl) (by kernel_rfl) (fun _ _ _ h => h) (Or.inl ⟨by kernel_rfl, fun w' hw => by go_simp⟩) hS trivial ?_
      refine anyT_take (i := 12) (n := 4) (v := .int .i64 (s0 + q)) rfl (by decide) (by kernel_rfl) (by kernel_rfl) (by kernel_rfl) (fun _ _ _ h => h) (Or.inl ⟨by kernel_rfl, fun w' hw => by go_simp⟩) hS trivial ?_
      refine anyK_all (n := 3) (rs := [4, 6]) (by kernel_rfl) (by simp) (fun i hi => ?_)
      simp only [List.mem_cons, List.not_mem_nil, or_false] at hi
      rcases hi with rfl | rfl
      · refine wpOp_step rfl (fun K' hK => ?_)
        go_simp
        refine (cloneL_any g off k cap (b0 ++ [l]) v (by omega) (HBG.out.below HB.out)).mono ?_
        rintro e v1 ⟨vv, rfl, hg⟩
        obtain ⟨g2, c2, rfl⟩ := own_first hg.1 (by rw [HK1.out]; omega)
        rw [HK1.out] at hg ⊢
        have hA := (Below.refl _ v1).alloc (Nat.le_refl _) (.cells #[.int .i64 x] 2)
        have HOW := Lib.hid (hg.1.alloc (.cells #[.int .i64 x] 2))
        have HBA := Lib.hid (bthen hg.2 hA)
        have HSZ := Lib.hid (show v.heap.size ≤ (v1.alloc (.cells #[.int .i64 x] 2)).heap.size from HBA.out.size)
        have hS1 := HSA.out _ (bthen HB.out hg.2)
        replace hS := HSA.out _ (bthen HB.out HBA.out)
        refine hK _ _ ⟨fun _ _ => hS1, trivial, ?_⟩
        clear hK hg hA hS1
        refine anyK_all (n := 2) (rs := [6]) (by kernel_rfl) (by simp) (fun i hi => ?_)
        simp only [List.mem_cons, List.not_mem_nil, or_false] at hi
        obtain rfl := hi
        refine wpOp_step rfl (fun K' hK => ?_)
        go_simp
        refine hK _ _ ⟨fun _ _ => hS, trivial, ?_⟩
        clear hK
        have hcell : (v1.alloc (.cells #[.int .i64 x] 2)).cell? ⟨v1.heap.size, 0, none⟩ = some (.int .i64 x) := by go_simp
        obtain ⟨v0, hv0⟩ : ∃ v0, v0 = v := ⟨_, rfl⟩
        subst hv0
        obtain ⟨b11, hb11⟩ : ∃ b, v1.heap.size = b := ⟨_, rfl⟩
        obtain ⟨vA, hvA⟩ : ∃ w', v1.alloc (.cells #[.int .i64 x] 2) = w' := ⟨_, rfl⟩
        rw [hvA] at hS HOW HBA HSZ
        rw [hvA, hb11] at hcell
        rw [hvA]
        try rw [hb11]
        clear hvA hb11
        refine anyK_all (n := 1) (rs := [7]) (by kernel_rfl) (by simp) (fun i hi => ?_)
        simp only [List.mem_cons, List.not_mem_nil, or_false] at hi
        obtain rfl := hi
        refine wpOp_step rfl (fun K' hK => ?_)
        refine step_ap1 rfl (.tmp 54) (.tmp 56) 24 rfl v0.heap.size 2 (.int .i64 0) 8 Try.underlying24 Try.infoI rfl (.slice (some ⟨g2, 0, none⟩) k c2) k _ rfl HOW.out b11 (.int .i64 x) rfl hcell rfl (by omega) (by omega) HSZ.out ?_
        intro v' w6 hown hgrow _
        obtain ⟨a6, c6, rfl⟩ := own_form hown
        obtain ⟨g6, hg6⟩ : ∃ g6, a6 = some ⟨g6, 0, none⟩ := by
          obtain ⟨g6, c7, e⟩ := own_first hown (by omega)
          injection e with e1 _ _
          exact ⟨g6, e1⟩
        subst hg6
        have hg6b := (hown.lt g6 rfl).1
        have HB6 := Lib.hid (show Below wr.heap.size wr w6 from bthen HB.out (below_grown HBA.out HOW.out hgrow HSZ.out))
        have HI6 := Lib.hid (show IsInts w6 (some ⟨g6, 0, none⟩) (k + 1) (b0 ++ [l] ++ [x]) from IsInts.of_own (by rw [List.map_append]; exact hown))
        have hgx : g6 ≠ bx := by have := HLT.out; have := HB.out.size; have := HBA.out.size; omega
        replace hS := HSA.out _ HB6.out
        refine hK _ _ ⟨fun _ _ => hS, trivial, ?_⟩
        clear hK hown hgrow
        have HCA := Lib.hid (HIH.out (b0 ++ [l]) x c' g6 0 c6 w6 (by have := HB6.out.size; have := HBW.out; omega) HLEN.out (HPI.out.sl.all HB6.out) HPI.out.kd HSC.out (by rw [HK1.out]; exact HI6.out) hgx HPT.out HSQ.out)
        rw [HK1.out, HSX.out] at HCA
        refine anyK_all (n := 0) (rs := [13]) (by kernel_rfl) (by simp) (fun i hi => ?_)
        simp only [List.mem_cons, List.not_mem_nil, or_false] at hi
        obtain rfl := hi
        refine wpOp_step rfl (fun K' hK => ?_)
        go_simp
        refine HCA.out.mono ?_
        rintro e w7 ⟨rfl, c2, hsl, hgx7, hkd, hge, hseen⟩
        have HPI2 := Lib.hid (show PtI w1 w7 B bx D a m c0 c2 from ⟨hsl, HPI.out.gx.trans ((Gx.below HB6.out).trans hgx7), hkd, geB_trans (by rw [hkd.len, HPI.out.kd.len]) (by rw [HPI.out.kd.len, HC0.out.len]) hge HPI.out.ge⟩)
        have HSN2 := Lib.hid (show ∀ i : Nat, i < j + 1 → Seen (IsPt a m D) c2 (b0 ++ [l] ++ [f + m * (i : Int)]) from fun i hi => by
          by_cases h : i = j
          · rw [h, ← HXX.out]; exact hseen
          · exact (HSN.out i (by omega)).mono IsPt.hl hkd.len HPI.out.kd.len hge)
        refine hK _ _ ⟨(fun h => absurd rfl h), trivial, ?_⟩
        clear hK hsl hgx7 hkd hge hseen hS
        obtain ⟨z0, z1, z2⟩ := HPI2.out.box HB0.out hbne
        refine ⟨by kernel_rfl, ?_⟩
        go_wp2_with fail
        go_roundw
        case rel => exact ⟨j + 1, x + m, c2, by go_num, by omega, by omega, HXN, HPI2, HSN2⟩
        case measure => simp [intOf] <;> omega
      · refine wpOp_step rfl (fun K' hK => ?_)
        go_simp
        have hA := (Below.refl _ v).alloc (Nat.le_refl _) (.cells #[.int .i64 x] 2)
        have HAB := Lib.hid hA
        have hS1 := HSA.out _ (bthen HB.out hA)
        refine hK _ _ ⟨fun _ _ => hS1, trivial, ?_⟩
        clear hK hA
        have hcell0 : (v.alloc (.cells #[.int .i64 x] 2)).cell? ⟨v.heap.size, 0, none⟩ = some (.int .i64 x) := by go_simp
        have hlt0 : v.heap.size < (v.alloc (.cells #[.int .i64 x] 2)).heap.size := by simp
        obtain ⟨b11, hb11⟩ : ∃ b, v.heap.size = b := ⟨_, rfl⟩
        obtain ⟨v0, hv0⟩ : ∃ w', v.alloc (.cells #[.int .i64 x] 2) = w' := ⟨_, rfl⟩
        rw [hv0] at hS1 HAB hlt0
        rw [hv0, hb11] at hcell0
        rw [hb11] at hlt0
        rw [hv0]
        try rw [hb11]
        clear hv0 hb11
        refine anyK_all (n := 2) (rs := [4]) (by kernel_rfl) (by simp) (fun i hi => ?_)
        simp only [List.mem_cons, List.not_mem_nil, or_false] at hi
        obtain rfl := hi
        refine wpOp_step rfl (fun K' hK => ?_)
        go_simp
        refine (cloneL_any g off k cap (b0 ++ [l]) v0 (by omega) (HBG.out.below (bthen HB.out HAB.out))).mono ?_
        rintro e v1 ⟨vv, rfl, hg⟩
        obtain ⟨g2, c2, rfl⟩ := own_first hg.1 (by rw [HK1.out]; omega)
        rw [HK1.out] at hg ⊢
        have HOW := Lib.hid hg.1
        have HG1 := Lib.hid hg.2
        have HBA := Lib.hid (bthen HAB.out hg.2)
        have HSZ := Lib.hid hg.2.size
        have hcell : v1.cell? ⟨b11, 0, none⟩ = some (.int .i64 x) := (hg.2.cell (p := ⟨b11, 0, none⟩) hlt0).trans hcell0
        replace hS := HSA.out _ (bthen HB.out HBA.out)
        refine hK _ _ ⟨fun _ _ => hS, trivial, ?_⟩
        clear hK hg hS1 hcell0 hlt0
        refine anyK_all (n := 1) (rs := [7]) (by kernel_rfl) (by simp) (fun i hi => ?_)
        simp only [List.mem_cons, List.not_mem_nil, or_false] at hi
        obtain rfl := hi
        refine wpOp_step rfl (fun K' hK => ?_)
        refine step_ap1 rfl (.tmp 54) (.tmp 56) 24 rfl v0.heap.size 2 (.int .i64 0) 8 Try.underlying24 Try.infoI rfl (.slice (some ⟨g2, 0, none⟩) k c2) k _ rfl HOW.out b11 (.int .i64 x) rfl hcell rfl (by omega) (by omega) HSZ.out ?_
        intro v' w6 hown hgrow _
        obtain ⟨a6, c6, rfl⟩ := own_form hown
        obtain ⟨g6, hg6⟩ : ∃ g6, a6 = some ⟨g6, 0, none⟩ := by
          obtain ⟨g6, c7, e⟩ := own_first hown (by omega)
          injection e with e1 _ _
          exact ⟨g6, e1⟩
        subst hg6
        have hg6b := (hown.lt g6 rfl).1
        have HB6 := Lib.hid (show Below wr.heap.size wr w6 from bthen HB.out (bthen HAB.out (below_grown HG1.out HOW.out hgrow HSZ.out)))
        have HI6 := Lib.hid (show IsInts w6 (some ⟨g6, 0, none⟩) (k + 1) (b0 ++ [l] ++ [x]) from IsInts.of_own (by rw [List.map_append]; exact hown))
        have hgx : g6 ≠ bx := by have := HLT.out; have := HB.out.size; have := HAB.out.size; omega
        replace hS := HSA.out _ HB6.out
        refine hK _ _ ⟨fun _ _ => hS, trivial, ?_⟩
        clear hK hown hgrow
        have HCA := Lib.hid (HIH.out (b0 ++ [l]) x c' g6 0 c6 w6 (by have := HB6.out.size; have := HBW.out; omega) HLEN.out (HPI.out.sl.all HB6.out) HPI.out.kd HSC.out (by rw [HK1.out]; exact HI6.out) hgx HPT.out HSQ.out)
        rw [HK1.out, HSX.out] at HCA
        refine anyK_all (n := 0) (rs := [13]) (by kernel_rfl) (by simp) (fun i hi => ?_)
        simp only [List.mem_cons, List.not_mem_nil, or_false] at hi
        obtain rfl := hi
        refine wpOp_step rfl (fun K' hK => ?_)
        go_simp
        refine HCA.out.mono ?_
        rintro e w7 ⟨rfl, c2, hsl, hgx7, hkd, hge, hseen⟩
        have HPI2 := Lib.hid (show PtI w1 w7 B bx D a m c0 c2 from ⟨hsl, HPI.out.gx.trans ((Gx.below HB6.out).trans hgx7), hkd, geB_trans (by rw [hkd.len, HPI.out.kd.len]) (by rw [HPI.out.kd.len, HC0.out.len]) hge HPI.out.ge⟩)
        have HSN2 := Lib.hid (show ∀ i : Nat, i < j + 1 → Seen (IsPt a m D) c2 (b0 ++ [l] ++ [f + m * (i : Int)]) from fun i hi => by
          by_cases h : i = j
          · rw [h, ← HXX.out]; exact hseen
          · exact (HSN.out i (by omega)).mono IsPt.hl hkd.len HPI.out.kd.len hge)
        refine hK _ _ ⟨(fun h => absurd rfl h), trivial, ?_⟩
        clear hK hsl hgx7 hkd hge hseen hS
        obtain ⟨z0, z1, z2⟩ := HPI2.out.box HB0.out hbne
        refine ⟨by kernel_rfl, ?_⟩
        go_wp2_with fail
        go_roundw
        case rel => exact ⟨j + 1, x + m, c2, by go_num, by omega, by omega, HXN, HPI2, HSN2⟩
        case measure => simp [intOf] <;> omega
    · have HALL := Lib.hid (fun i : Nat => Seen.up hm0 hf1 HSN.out (by rw [HS0.out, ← HXX.out, HQ.out.1, HQ.out.2]; omega) i)
      have hfw : IntKind.i64.wrap (f - m) = f - m := IntWalk.i64_in _ (by omega)
      have HPI1 := HPI
      clear HSN hxm
      go_wp2_with fail

      go_loopw [12] (fun v12 wr => ∃ (j : Nat) (x : Int) (c' : List Int), v12 = .int .i64 x ∧ x < 0 ∧ -200000 ≤ x ∧ Hid (x = f - m - m * (j : Int)) ∧ Hid (PtI w1 wr B bx D a m c0 c') ∧ Hid (∀ i : Nat, i < j → Seen (IsPt a m D) c' (b0 ++ [l] ++ [f - m - m * (i : Int)])) ∧ Hid (∀ i : Nat, Seen (IsPt a m D) c' (b0 ++ [l] ++ [f + m * (i : Int)]))) (fun v12 _ => (300000 + intOf v12).toNat)
      case atStart => exact ⟨0, f - m, c', rfl, by omega, by omega, Lib.hid (by simp), HPI1, Lib.hid (fun i hi => absurd hi (Nat.not_lt_zero i)), HALL⟩
      case round =>
        clear HPI1 HALL HSC hsum hscb HBX HBG HBW HLT y0 y1 y2 HPI hle HQ HXX
        obtain ⟨j, x, c', rfl, hx0, hx1, HXX, HPI, HSN, HALL⟩ := hrel
        have HSC := Lib.hid (show sqL c' ≤ m * m from Int.le_trans (geB_sq HPI.out.ge) HC.out)
        have hsum := HPI.out.sl.sum
        have hscb : 0 ≤ sqL c' ∧ sqL c' ≤ 10000000000 := ⟨sqL_nonneg _, Int.le_trans HSC.out HMM.out.2⟩
        have hqb : 0 ≤ x * x ∧ x * x ≤ 40000000000 := by
          refine ⟨sq_nn x, ?_⟩
          have := sq_le (x := x) (y := 200000) (by omega)
          omega
        have hxm : x * x ≤ 10000000000 → -100000 ≤ x := fun h => by
          by_cases h1 : x < -100000
          · have := sq_lt (x := 100000) (y := x) (by omega)
            omega
          · omega
        have HBX := Lib.hid (show Box3 wr bb m a ad from HB0.out.gx HPI.out.gx hbne)
        have HBG := Lib.hid (HBG0.out.gx HPI.out.gx HGN.out)
        have HBW := Lib.hid (show B ≤ wr.heap.size from Nat.le_trans HBW0.out HPI.out.gx.size)
        have HLT := Lib.hid HPI.out.sl.lt
        obtain ⟨y0, y1, y2⟩ := HBX.out
        obtain ⟨q, hq⟩ : ∃ q, x * x = q := ⟨_, rfl⟩
        obtain ⟨sc, hsc⟩ : ∃ q, sqL c' = q := ⟨_, rfl⟩
        rw [hq] at hqb hxm
        rw [hsc] at hsum hscb
        have HQ := Lib.hid (And.intro hq hsc)
        have hqw : IntKind.i64.wrap q = q := IntWalk.i64_in _ (by omega)
        have hsqw : IntKind.i64.wrap (s0 + q) = s0 + q := IntWalk.i64_in _ (by omega)
        clear hsc
        by_cases hle : s0 + q ≤ sc
        · have hxm2 := hxm (by omega)
          have hxw : IntKind.i64.wrap (x - m) = x - m := IntWalk.i64_in _ (by omega)
          have HSX := Lib.hid (show sqL (b0 ++ [l] ++ [x]) = s0 + q by rw [sqL_push, HS0.out, HQ.out.1])
          have HSQ := Lib.hid (show sqL (b0 ++ [l] ++ [x]) ≤ m * m by rw [HSX.out]; have := HSC.out; have := HQ.out.2; omega)
          have HPT := Lib.hid (show ptL a m (b0 ++ [l] ++ [x]) from ptL_push HPT0.out (by
            have h1 := HFM.out
            have e : x - a * l = (f - a * l) + m * (-1 - (j : Int)) := by rw [HXX.out, Int.mul_sub]; omega
            rw [e, Int.add_mul_emod_self_left]; exact h1))
          have HLEN := Lib.hid (show r + ((b0 ++ [l]).length + 1) = D by rw [HK1.out]; exact HR2.out)
          have HXN := Lib.hid (show x - m = f - m - m * ((j + 1 : Nat) : Int) by rw [HXX.out, Int.natCast_add, Int.mul_add]; omega)
          clear hxm
          go_wp2_with fail
          have HSA : Hid (∀ w', Below wr.heap.size wr w' → w'.cell? ⟨bb, 0, none⟩ = some (.int .i64 m) ∧ w'.cell? ⟨bb, 1, none⟩ = some (.int .i64 a) ∧ w'.cell? ⟨bb, 2, none⟩ = some (.int .i64 ad)) := Lib.hid (fun w' hb => ⟨(hb.cell (p := ⟨bb, 0, none⟩) (World.block_lt_of_cell? wr _ HBX.out.1)).trans HBX.out.1, (hb.cell (p := ⟨bb, 1, none⟩) (World.block_lt_of_cell? wr _ HBX.out.2.1)).trans HBX.out.2.1, (hb.cell (p := ⟨bb, 2, none⟩) (World.block_lt_of_cell? wr _ HBX.out.2.2)).trans HBX.out.2.2⟩)
          have HB := Lib.hid ((Below.refl wr.heap.size wr).drew)
          have hS := HSA.out _ HB.out
          refine wp_region_any (by kernel_rfl) (any_of_K (k := 13) (S := fun w' => w'.cell? ⟨bb, 0, none⟩ = some (.int .i64 m) ∧ w'.cell? ⟨bb, 1, none⟩ = some (.int .i64 a) ∧ w'.cell? ⟨bb, 2, none⟩ = some (.int .i64 ad)) (T := fun _ => True) _ _ _ _ ?_)
          change anyK _ _ _ _ _ _ _ _ _ _ (World.drew wr)
          obtain ⟨v, hv⟩ : ∃ w', wr.drew = w' := ⟨_, rfl⟩
          rw [hv] at HB hS ⊢
          clear hv
          refine anyT_take (i := 0) (n := 13) (v := .pointer (some ⟨bx, 0, none⟩)) rfl (by decide) (by kernel_rfl) (by kernel_rfl) (by kernel_rfl) (fun _ _ _ h => h) (Or.inl ⟨by kernel_rfl, fun w' hw => by go_simp⟩) hS trivial ?_
          refine anyK_take (i := 1) (n := 12) (v := .agg #[.int .i64 m, .int .i64 a, .int .i64 ad]) rfl rfl (by kernel_rfl) (by kernel_rfl) (by kernel_rfl) (by kernel_rfl) (by kernel_rfl) (fun _ _ _ h => h) (Or.inl ⟨by kernel_rfl, fun w' hw => by (obtain ⟨z0, z1, z2⟩ := hw; go_simp)⟩) hS trivial ?_
          refine anyT_take (i := 2) (n := 11) (v := .int .i64 (D : Nat)) rfl (by decide) (by kernel_rfl) (by kernel_rfl) (by kernel_rfl) (fun _ _ _ h => h) (Or.inl ⟨by kernel_rfl, fun w' hw => by go_simp⟩) hS trivial ?_
          refine anyT_take (i := 3) (n := 10) (v := .slice (some ⟨g, off, none⟩) k cap) rfl (by decide) (by kernel_rfl) (by kernel_rfl) (by kernel_rfl) (fun _ _ _ h => h) (Or.inl ⟨by kernel_rfl, fun w' hw => by go_simp⟩) hS trivial ?_
          refine anyT_take (i := 5) (n := 9) (v := .int .i64 x) rfl (by decide) (by kernel_rfl) (by kernel_rfl) (by kernel_rfl) (fun _ _ _ h => h) (Or.inl ⟨by kernel_rfl, fun w' hw => by go_simp⟩) hS trivial ?_
          refine anyT_take (i := 8) (n := 8) (v := .int .i64 s0) rfl (by decide) (by kernel_rfl) (by kernel_rfl) (by kernel_rfl) (fun _ _ _ h => h) (Or.inl ⟨by kernel_rfl, fun w' hw => by go_simp⟩) hS trivial ?_
          refine anyT_take (i := 9) (n := 7) (v := .int .i64 x) rfl (by decide) (by kernel_rfl) (by kernel_rfl) (by kernel_rfl) (fun _ _ _ h => h) (Or.inl ⟨by kernel_rfl, fun w' hw => by go_simp⟩) hS trivial ?_
          refine anyT_take (i := 10) (n := 6) (v := .int .i64 x) rfl (by decide) (by kernel_rfl) (by kernel_rfl) (by kernel_rfl) (fun _ _ _ h => h) (Or.inl ⟨by kernel_rfl, fun w' hw => by go_simp⟩) hS trivial ?_
          refine anyT_take (i := 11) (n := 5) (v := .int .i64 q) rfl (by decide) (by kernel_rfl) (by kernel_rfl) (by kernel_rfl) (fun _ _ _ h => h) (Or.inl ⟨by kernel_rfl, fun w' hw => by go_simp⟩) hS trivial ?_
          refine anyT_take (i := 12) (n := 4) (v := .int .i64 (s0 + q)) rfl (by decide) (by kernel_rfl) (by kernel_rfl) (by kernel_rfl) (fun _ _ _ h => h) (Or.inl ⟨by kernel_rfl, fun w' hw => by go_simp⟩) hS trivial ?_
          refine anyK_all (n := 3) (rs := [4, 6]) (by kernel_rfl) (by simp) (fun i hi => ?_)
          simp only [List.mem_cons, List.not_mem_nil, or_false] at hi
          rcases hi with rfl | rfl
          · refine wpOp_step rfl (fun K' hK => ?_)
            go_simp
            refine (cloneL_any g off k cap (b0 ++ [l]) v (by omega) (HBG.out.below HB.out)).mono ?_
            rintro e v1 ⟨vv, rfl, hg⟩
            obtain ⟨g2, c2, rfl⟩ := own_first hg.1 (by rw [HK1.out]; omega)
            rw [HK1.out] at hg ⊢
            have hA := (Below.refl _ v1).alloc (Nat.le_refl _) (.cells #[.int .i64 x] 2)
            have HOW := Lib.hid (hg.1.alloc (.cells #[.int .i64 x] 2))
            have HBA := Lib.hid (bthen hg.2 hA)
            have HSZ := Lib.hid (show v.heap.size ≤ (v1.alloc (.cells #[.int .i64 x] 2)).heap.size from HBA.out.size)
            have hS1 := HSA.out _ (bthen HB.out hg.2)
            replace hS := HSA.out _ (bthen HB.out HBA.out)
            refine hK _ _ ⟨fun _ _ => hS1, trivial, ?_⟩
            clear hK hg hA hS1
            refine anyK_all (n := 2) (rs := [6]) (by kernel_rfl) (by simp) (fun i hi => ?_)
            simp only [List.mem_cons, List.not_mem_nil, or_false] at hi
            obtain rfl := hi
            refine wpOp_step rfl (fun K' hK => ?_)
            go_simp
            refine hK _ _ ⟨fun _ _ => hS, trivial, ?_⟩
            clear hK
            have hcell : (v1.alloc (.cells #[.int .i64 x] 2)).cell? ⟨v1.heap.size, 0, none⟩ = some (.int .i64 x) := by go_simp
            obtain ⟨v0, hv0⟩ : ∃ v0, v0 = v := ⟨_, rfl⟩
            subst hv0
            obtain ⟨b11, hb11⟩ : ∃ b, v1.heap.size = b := ⟨_, rfl⟩
            obtain ⟨vA, hvA⟩ : ∃ w', v1.alloc (.cells #[.int .i64 x] 2) = w' := ⟨_, rfl⟩
            rw [hvA] at hS HOW HBA HSZ
            rw [hvA, hb11] at hcell
            rw [hvA]
            try rw [hb11]
            clear hvA hb11
            refine anyK_all (n := 1) (rs := [7]) (by kernel_rfl) (by simp) (fun i hi => ?_)
            simp only [List.mem_cons, List.not_mem_nil, or_false] at hi
            obtain rfl := hi
            refine wpOp_step rfl (fun K' hK => ?_)
            refine step_ap1 rfl (.tmp 86) (.tmp 88) 24 rfl v0.heap.size 2 (.int .i64 0) 8 Try.underlying24 Try.infoI rfl (.slice (some ⟨g2, 0, none⟩) k c2) k _ rfl HOW.out b11 (.int .i64 x) rfl hcell rfl (by omega) (by omega) HSZ.out ?_
            intro v' w6 hown hgrow _
            obtain ⟨a6, c6, rfl⟩ := own_form hown
            obtain ⟨g6, hg6⟩ : ∃ g6, a6 = some ⟨g6, 0, none⟩ := by
              obtain ⟨g6, c7, e⟩ := own_first hown (by omega)
              injection e with e1 _ _
              exact ⟨g6, e1⟩
            subst hg6
            have hg6b := (hown.lt g6 rfl).1
            have HB6 := Lib.hid (show Below wr.heap.size wr w6 from bthen HB.out (below_grown HBA.out HOW.out hgrow HSZ.out))
            have HI6 := Lib.hid (show IsInts w6 (some ⟨g6, 0, none⟩) (k + 1) (b0 ++ [l] ++ [x]) from IsInts.of_own (by rw [List.map_append]; exact hown))
            have hgx : g6 ≠ bx := by have := HLT.out; have := HB.out.size; have := HBA.out.size; omega
            replace hS := HSA.out _ HB6.out
            refine hK _ _ ⟨fun _ _ => hS, trivial, ?_⟩
            clear hK hown hgrow
            have HCA := Lib.hid (HIH.out (b0 ++ [l]) x c' g6 0 c6 w6 (by have := HB6.out.size; have := HBW.out; omega) HLEN.out (HPI.out.sl.all HB6.out) HPI.out.kd HSC.out (by rw [HK1.out]; exact HI6.out) hgx HPT.out HSQ.out)
            rw [HK1.out, HSX.out] at HCA
            refine anyK_all (n := 0) (rs := [13]) (by kernel_rfl) (by simp) (fun i hi => ?_)
            simp only [List.mem_cons, List.not_mem_nil, or_false] at hi
            obtain rfl := hi
            refine wpOp_step rfl (fun K' hK => ?_)
            go_simp
            refine HCA.out.mono ?_
            rintro e w7 ⟨rfl, c2, hsl, hgx7, hkd, hge, hseen⟩
            have HPI2 := Lib.hid (show PtI w1 w7 B bx D a m c0 c2 from ⟨hsl, HPI.out.gx.trans ((Gx.below HB6.out).trans hgx7), hkd, geB_trans (by rw [hkd.len, HPI.out.kd.len]) (by rw [HPI.out.kd.len, HC0.out.len]) hge HPI.out.ge⟩)
            have HSN2 := Lib.hid (show ∀ i : Nat, i < j + 1 → Seen (IsPt a m D) c2 (b0 ++ [l] ++ [f - m - m * (i : Int)]) from fun i hi => by
              by_cases h : i = j
              · rw [h, ← HXX.out]; exact hseen
              · exact (HSN.out i (by omega)).mono IsPt.hl hkd.len HPI.out.kd.len hge)
            have HALL2 := Lib.hid (fun i => (HALL.out i).mono IsPt.hl hkd.len HPI.out.kd.len hge)
            refine hK _ _ ⟨(fun h => absurd rfl h), trivial, ?_⟩
            clear hK hsl hgx7 hkd hge hseen hS
            obtain ⟨z0, z1, z2⟩ := HPI2.out.box HB0.out hbne
            refine ⟨by kernel_rfl, ?_⟩
            go_wp2_with fail
            go_roundw
            case rel => exact ⟨j + 1, x - m, c2, by go_num, by omega, by omega, HXN, HPI2, HSN2, HALL2⟩
            case measure => simp [intOf] <;> omega
          · refine wpOp_step rfl (fun K' hK => ?_)
            go_simp
            have hA := (Below.refl _ v).alloc (Nat.le_refl _) (.cells #[.int .i64 x] 2)
            have HAB := Lib.hid hA
            have hS1 := HSA.out _ (bthen HB.out hA)
            refine hK _ _ ⟨fun _ _ => hS1, trivial, ?_⟩
            clear hK hA
            have hcell0 : (v.alloc (.cells #[.int .i64 x] 2)).cell? ⟨v.heap.size, 0, none⟩ = some (.int .i64 x) := by go_simp
            have hlt0 : v.heap.size < (v.alloc (.cells #[.int .i64 x] 2)).heap.size := by simp
            obtain ⟨b11, hb11⟩ : ∃ b, v.heap.size = b := ⟨_, rfl⟩
            obtain ⟨v0, hv0⟩ : ∃ w', v.alloc (.cells #[.int .i64 x] 2) = w' := ⟨_, rfl⟩
            rw [hv0] at hS1 HAB hlt0
            rw [hv0, hb11] at hcell0
            rw [hb11] at hlt0
            rw [hv0]
            try rw [hb11]
            clear hv0 hb11
            refine anyK_all (n := 2) (rs := [4]) (by kernel_rfl) (by simp) (fun i hi => ?_)
            simp only [List.mem_cons, List.not_mem_nil, or_false] at hi
            obtain rfl := hi
            refine wpOp_step rfl (fun K' hK => ?_)
            go_simp
            refine (cloneL_any g off k cap (b0 ++ [l]) v0 (by omega) (HBG.out.below (bthen HB.out HAB.out))).mono ?_
            rintro e v1 ⟨vv, rfl, hg⟩
            obtain ⟨g2, c2, rfl⟩ := own_first hg.1 (by rw [HK1.out]; omega)
            rw [HK1.out] at hg ⊢
            have HOW := Lib.hid hg.1
            have HG1 := Lib.hid hg.2
            have HBA := Lib.hid (bthen HAB.out hg.2)
            have HSZ := Lib.hid hg.2.size
            have hcell : v1.cell? ⟨b11, 0, none⟩ = some (.int .i64 x) := (hg.2.cell (p := ⟨b11, 0, none⟩) hlt0).trans hcell0
            replace hS := HSA.out _ (bthen HB.out HBA.out)
            refine hK _ _ ⟨fun _ _ => hS, trivial, ?_⟩
            clear hK hg hS1 hcell0 hlt0
            refine anyK_all (n := 1) (rs := [7]) (by kernel_rfl) (by simp) (fun i hi => ?_)
            simp only [List.mem_cons, List.not_mem_nil, or_false] at hi
            obtain rfl := hi
            refine wpOp_step rfl (fun K' hK => ?_)
            refine step_ap1 rfl (.tmp 86) (.tmp 88) 24 rfl v0.heap.size 2 (.int .i64 0) 8 Try.underlying24 Try.infoI rfl (.slice (some ⟨g2, 0, none⟩) k c2) k _ rfl HOW.out b11 (.int .i64 x) rfl hcell rfl (by omega) (by omega) HSZ.out ?_
            intro v' w6 hown hgrow _
            obtain ⟨a6, c6, rfl⟩ := own_form hown
            obtain ⟨g6, hg6⟩ : ∃ g6, a6 = some ⟨g6, 0, none⟩ := by
              obtain ⟨g6, c7, e⟩ := own_first hown (by omega)
              injection e with e1 _ _
              exact ⟨g6, e1⟩
            subst hg6
            have hg6b := (hown.lt g6 rfl).1
            have HB6 := Lib.hid (show Below wr.heap.size wr w6 from bthen HB.out (bthen HAB.out (below_grown HG1.out HOW.out hgrow HSZ.out)))
            have HI6 := Lib.hid (show IsInts w6 (some ⟨g6, 0, none⟩) (k + 1) (b0 ++ [l] ++ [x]) from IsInts.of_own (by rw [List.map_append]; exact hown))
            have hgx : g6 ≠ bx := by have := HLT.out; have := HB.out.size; have := HAB.out.size; omega
            replace hS := HSA.out _ HB6.out
            refine hK _ _ ⟨fun _ _ => hS, trivial, ?_⟩
            clear hK hown hgrow
            have HCA := Lib.hid (HIH.out (b0 ++ [l]) x c' g6 0 c6 w6 (by have := HB6.out.size; have := HBW.out; omega) HLEN.out (HPI.out.sl.all HB6.out) HPI.out.kd HSC.out (by rw [HK1.out]; exact HI6.out) hgx HPT.out HSQ.out)
            rw [HK1.out, HSX.out] at HCA
            refine anyK_all (n := 0) (rs := [13]) (by kernel_rfl) (by simp) (fun i hi => ?_)
            simp only [List.mem_cons, List.not_mem_nil, or_false] at hi
            obtain rfl := hi
            refine wpOp_step rfl (fun K' hK => ?_)
            go_simp
            refine HCA.out.mono ?_
            rintro e w7 ⟨rfl, c2, hsl, hgx7, hkd, hge, hseen⟩
            have HPI2 := Lib.hid (show PtI w1 w7 B bx D a m c0 c2 from ⟨hsl, HPI.out.gx.trans ((Gx.below HB6.out).trans hgx7), hkd, geB_trans (by rw [hkd.len, HPI.out.kd.len]) (by rw [HPI.out.kd.len, HC0.out.len]) hge HPI.out.ge⟩)
            have HSN2 := Lib.hid (show ∀ i : Nat, i < j + 1 → Seen (IsPt a m D) c2 (b0 ++ [l] ++ [f - m - m * (i : Int)]) from fun i hi => by
              by_cases h : i = j
              · rw [h, ← HXX.out]; exact hseen
              · exact (HSN.out i (by omega)).mono IsPt.hl hkd.len HPI.out.kd.len hge)
            have HALL2 := Lib.hid (fun i => (HALL.out i).mono IsPt.hl hkd.len HPI.out.kd.len hge)
            refine hK _ _ ⟨(fun h => absurd rfl h), trivial, ?_⟩
            clear hK hsl hgx7 hkd hge hseen hS
            obtain ⟨z0, z1, z2⟩ := HPI2.out.box HB0.out hbne
            refine ⟨by kernel_rfl, ?_⟩
            go_wp2_with fail
            go_roundw
            case rel => exact ⟨j + 1, x - m, c2, by go_num, by omega, by omega, HXN, HPI2, HSN2, HALL2⟩
            case measure => simp [intOf] <;> omega
        · have HALL2 := Lib.hid (fun i : Nat => Seen.down hm0 hf2 HSN.out (by rw [HS0.out, ← HXX.out, HQ.out.1, HQ.out.2]; omega) i)
          have HEND := Lib.hid (show Seen (IsPt a m D) c' (b0 ++ [l]) from Seen.next hm0 (by rw [HK1.out]; have := HR2.out; omega) HFM.out HALL.out HALL2.out)
          clear HSN hxm
          go_wp2_with fail
          go_end0
          exact ⟨rfl, c', HPI.out.sl, HGA1.out.trans HPI.out.gx, HPI.out.kd, HPI.out.ge, HEND.out⟩
end Go.Proofs.Ytpineiocjaajnaa

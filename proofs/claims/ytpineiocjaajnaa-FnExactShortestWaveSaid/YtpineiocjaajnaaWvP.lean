import Derived.Test.YtpineiocjaajnaaWvA
/- The shortest wave: the program's search. Condition: the modulus is from 2 to 100000. -/
namespace Go.Proofs.Ytpineiocjaajnaa
open Go.RowKit
set_option linter.unusedVariables false

/-- What the search keeps. -/
structure WvK (w1 wr : World) (B bx D : Nat) (a m bd : Int) (o0 o : Option (List Int)) : Prop where
  sl : SlO wr B bx D o
  gx : Gx w1 wr bx
  ok : okO (IsWv a m D) o
  sq : ∀ c, o = some c → sqL c ≤ bd * bd
  le : leO o o0
/-- The further elements so far. -/
def RestAt (w : World) (bx : Nat) (ar : Option Addr) (k cap : Nat) (b : List Int) : Prop := b.length = k ∧ ((ar = none ∧ k = 0 ∧ cap = 0) ∨ ∃ g off, ar = some ⟨g, off, none⟩ ∧ IsInts w (some ⟨g, off, none⟩) k b ∧ g ≠ bx)
theorem RestAt.gx {w w' : World} {bx : Nat} {ar : Option Addr} {k cap : Nat} {b : List Int} (h : RestAt w bx ar k cap b) (hg : Gx w w' bx) : RestAt w' bx ar k cap b := by
  obtain ⟨h1, h2 | ⟨g, off, e, hi, hne⟩⟩ := h
  · exact ⟨h1, Or.inl h2⟩
  · exact ⟨h1, Or.inr ⟨g, off, e, hi.gx hg hne, hne⟩⟩
theorem RestAt.bel {w w' : World} {bx : Nat} {ar : Option Addr} {k cap : Nat} {b : List Int} (h : RestAt w bx ar k cap b) (hg : Below w.heap.size w w') : RestAt w' bx ar k cap b := h.gx (Gx.below hg)
theorem cloneR_any {w : World} {bx : Nat} {ar : Option Addr} {k cap : Nat} {b : List Int} (h : RestAt w bx ar k cap b) (hk : k < 1000) :
    Calls Try.prog 60 #[.slice ar k cap] w fun e w' => ∃ a2 c2, e = .returned (.slice a2 k c2) ∧ GrowAt w w' 2 (.slice a2 k c2) k (b.map (Value.int .i64)) := by
  obtain ⟨h1, ⟨rfl, rfl, rfl⟩ | ⟨g, off, rfl, hi, hne⟩⟩ := h
  · refine (cloneNil_any w).mono ?_
    rintro e w' ⟨rfl, rfl⟩
    obtain rfl := List.eq_nil_of_length_eq_zero h1
    exact ⟨none, 0, rfl, ⟨rfl, Or.inl ⟨rfl, rfl⟩⟩, Below.refl _ _⟩
  · refine (cloneL_any g off k cap b w (by omega) hi).mono ?_
    rintro e w' ⟨v, rfl, hg⟩
    rw [h1] at hg
    obtain ⟨a2, c2, rfl⟩ := own_form hg.1
    exact ⟨a2, c2, rfl, hg⟩
/-- What waves leaves. -/
def RetWa (w : World) (B bx D : Nat) (a m bd BB : Int) (o : Option (List Int)) (b : List Int) (e : Ending) (w' : World) : Prop := e = .returned (.tuple #[]) ∧ ∃ o2, WvK w w' B bx D a m bd o o2 ∧ seenO (IsWv a m D) BB o2 b
def WavC (P : Program) (f : Nat) (B bx D : Nat) (a m ad bd BB : Int) (r : Nat) : Prop := ∀ (b : List Int) (o : Option (List Int)) (ar : Option Addr) (k cap : Nat) (w : World), B ≤ w.heap.size → r + (k + 1) = D → SlO w B bx D o → okO (IsWv a m D) o → (∀ c, o = some c → sqL c ≤ bd * bd) →
  RestAt w bx ar k cap b → sqL b ≤ bd * bd →
  Calls P f #[.pointer (some ⟨bx, 0, none⟩), .agg #[.int .i64 m, .int .i64 a, .int .i64 ad], .int .i64 (D : Nat), .slice ar k cap, .int .i64 (sqL b), .int .i64 (wS a m 0 b % m), .int .i64 (pwM a m (k + 1)), .int .i64 bd] w (RetWa w B bx D a m bd BB o b)
theorem ll_two (wr : World) (x : Int) (E1 E2 : Nat) (ar : Option Addr) (k cap : Nat) :
    ((wr.alloc (.cells #[.int .i64 x] E1)).alloc (.cells #[.slice (some ⟨wr.heap.size, 0, none⟩) 1 1, .slice ar k cap] E2)).cell? ⟨wr.heap.size + 1, 0, none⟩ = some (.slice (some ⟨wr.heap.size, 0, none⟩) 1 1) ∧
    ((wr.alloc (.cells #[.int .i64 x] E1)).alloc (.cells #[.slice (some ⟨wr.heap.size, 0, none⟩) 1 1, .slice ar k cap] E2)).cell? ⟨wr.heap.size + 1, 1, none⟩ = some (.slice ar k cap) ∧
    IsInts ((wr.alloc (.cells #[.int .i64 x] E1)).alloc (.cells #[.slice (some ⟨wr.heap.size, 0, none⟩) 1 1, .slice ar k cap] E2)) (some ⟨wr.heap.size, 0, none⟩) 1 [x] ∧
    Below wr.heap.size wr ((wr.alloc (.cells #[.int .i64 x] E1)).alloc (.cells #[.slice (some ⟨wr.heap.size, 0, none⟩) 1 1, .slice ar k cap] E2)) := by
  have hA1 := (Below.refl _ wr).alloc (Nat.le_refl _) (.cells #[.int .i64 x] E1)
  have hA2 := (Below.refl _ (wr.alloc (.cells #[.int .i64 x] E1))).alloc (Nat.le_refl _) (.cells #[.slice (some ⟨wr.heap.size, 0, none⟩) 1 1, .slice ar k cap] E2)
  have h := heap_at_new (wr.alloc (.cells #[.int .i64 x] E1)) (.cells #[.slice (some ⟨wr.heap.size, 0, none⟩) 1 1, .slice ar k cap] E2)
  rw [alloc_size] at h
  refine ⟨by simp only [World.cell?, h]; rfl, by simp only [World.cell?, h]; rfl, ?_, bthen hA1 hA2⟩
  have hI : IsInts (wr.alloc (.cells #[.int .i64 x] E1)) (some ⟨wr.heap.size, 0, none⟩) 1 [x] := by
    refine ⟨rfl, fun j hj => ⟨wr.heap.size, 0, rfl, ?_⟩⟩
    obtain rfl : j = 0 := by omega
    have h := heap_at_new wr (.cells #[.int .i64 x] E1)
    simp only [World.cell?, h]; rfl
  exact hI.below hA2
theorem wS_mod {a m s f : Int} (h : f = (-(s % m)) % m) : (f + s) % m = 0 := by
  subst h
  apply Int.emod_eq_zero_of_dvd
  have h1 := Int.emod_add_mul_ediv (-(s % m)) m
  have h2 := Int.emod_add_mul_ediv s m
  refine ⟨s / m - (-(s % m)) / m, ?_⟩
  rw [Int.mul_sub]; omega
theorem wv_of {a m f : Int} {D : Nat} {b : List Int} {x : Int} (hl : b.length + 1 = D) (h : (f + wS a m 0 b) % m = 0) (hx : x = f - m ∨ x = f ∨ x = f + m) (hp : posL (x :: b) = true) : IsWv a m D (x :: b) := by
  refine ⟨⟨by simpa using hl, x, b, rfl, ?_⟩, hp⟩
  apply Int.emod_eq_zero_of_dvd
  have hd := Int.dvd_of_emod_eq_zero h
  rcases hx with rfl | rfl | rfl
  · rw [show f - m + wS a m 0 b = (f + wS a m 0 b) - m by omega]
    exact Int.dvd_sub hd (Int.dvd_refl m)
  · exact hd
  · rw [show f + m + wS a m 0 b = (f + wS a m 0 b) + m by omega]
    exact Int.dvd_add hd (Int.dvd_refl m)
theorem ofO_sq {o : Option (List Int)} {v : List Int} {B : Int} (h : ∀ c, o = some c → sqL c ≤ B) (hv : sqL v ≤ B) : ∀ c, ofO o v = some c → sqL c ≤ B := by
  intro c hc
  unfold ofO at hc
  split at hc
  · split at hc
    · injection hc with e; subst e; exact hv
    · injection hc with e; subst e
      split
      · exact hv
      · exact h _ rfl
  · exact h c hc
/-- One first element has been dealt with. -/
def oneS (B : Int) (o : Option (List Int)) (v : List Int) : Prop := posL v = true → sqL v ≤ B → ∃ c, o = some c ∧ geB c v
theorem oneS.mono {P : List Int → Prop} {D : Nat} {B : Int} {o o2 : Option (List Int)} {v : List Int} (hl : ∀ v, P v → v.length = D) (hv : v.length = D) (k : okO P o) (k2 : okO P o2) (h : leO o2 o) (hs : oneS B o v) : oneS B o2 v := fun hp hb => by
  obtain ⟨c, e, g⟩ := hs hp hb
  obtain ⟨c2, e2, g2⟩ := h c e
  exact ⟨c2, e2, geB_trans (by rw [hl _ (k2 _ e2), hl _ (k _ e)]) (by rw [hl _ (k _ e), hv]) g2 g⟩
theorem Try.index3 (x y z : Int) (w : World) : (Instr.index 93 (.agg #[.int .i64 x, .int .i64 y, .int .i64 z]) (.int .i64 0)).run Try.prog w = .ok (.int .i64 x) w ∧
    (Instr.index 93 (.agg #[.int .i64 x, .int .i64 y, .int .i64 z]) (.int .i64 1)).run Try.prog w = .ok (.int .i64 y) w ∧
    (Instr.index 93 (.agg #[.int .i64 x, .int .i64 y, .int .i64 z]) (.int .i64 2)).run Try.prog w = .ok (.int .i64 z) w := by
  refine ⟨?_, ?_, ?_⟩ <;> kernel_rfl
set_option maxRecDepth 100000 in
set_option maxHeartbeats 1600000 in
theorem waves_zero (B bx D : Nat) (a m ad bd BB : Int) (hm : 2 ≤ m ∧ m ≤ 100000) (hD : 2 ≤ D) (hD4 : D ≤ 4) (hbd : 0 ≤ bd ∧ bd ≤ 200000) (hBB : BB ≤ bd * bd ∧ BB ≤ m * m) : WavC Try.prog 34 B bx D a m ad bd BB 0 := by
  intro b o ar k cap w hB hr hs hk hc hx hq
  have hkD : k + 1 = D := by omega
  obtain ⟨hbl, ⟨-, hk0, -⟩ | ⟨g, off, rfl, hxi, hgne⟩⟩ := hx
  · omega
  have hbbb : bd * bd ≤ 40000000000 := Int.mul_le_mul (b := bd) (d := 200000) (a := bd) (c := 200000) (by omega) (by omega) (by omega) (by omega)
  have hbb0 := sq_nn bd
  have HBB2 := Lib.hid (And.intro hBB (And.intro hbbb hbb0))
  have hA := (Below.refl _ w).alloc (Nat.le_refl _) (.cells #[.int .i64 m, .int .i64 a, .int .i64 ad] 27)
  have hlt := hs.lt
  have hbne : w.heap.size ≠ bx := by omega
  have HB0 := Lib.hid (Box3.new w 27 m a ad)
  have HX0 := Lib.hid hxi
  have HK0 := Lib.hid (show WvK w (w.alloc (.cells #[.int .i64 m, .int .i64 a, .int .i64 ad] 27)) B bx D a m bd o o from ⟨hs.all hA, Gx.below hA, hk, hc, leO_refl _⟩)
  have HKOK := Lib.hid hk
  have HLE := Lib.hid (show B ≤ w.heap.size ∧ g ≠ bx ∧ b.length + 1 = D from ⟨hB, hgne, by omega⟩)
  have hm0 : 0 < m := by omega
  have hs1 := Int.emod_nonneg (wS a m 0 b) (show m ≠ 0 by omega)
  have hs2 := Int.emod_lt_of_pos (wS a m 0 b) hm0
  have HF := Lib.hid (wS_mod (a := a) (m := m) (s := wS a m 0 b) rfl)
  have hf1 := Int.emod_nonneg (-(wS a m 0 b % m)) (show m ≠ 0 by omega)
  have hf2 := Int.emod_lt_of_pos (-(wS a m 0 b % m)) hm0
  obtain ⟨S, hS⟩ : ∃ S, wS a m 0 b % m = S := ⟨_, rfl⟩
  rw [hS] at HF hf1 hf2 hs1 hs2 ⊢
  obtain ⟨f, hf⟩ : ∃ f, (-S) % m = f := ⟨_, rfl⟩
  rw [hf] at HF hf1 hf2
  have HFM := Lib.hid (fun w => floorMod_any (-S) m w hm0 (by omega))
  rw [hf] at HFM
  have hSn : IntKind.i64.wrap (-S) = -S := IntWalk.i64_in _ (by omega)
  have hsq0 := sqL_nonneg b
  obtain ⟨s0, hs0⟩ : ∃ s, sqL b = s := ⟨_, rfl⟩
  rw [hs0] at hq hsq0 ⊢
  have HS0 := Lib.hid hs0
  obtain ⟨pw, hpw⟩ : ∃ p, pwM a m (k + 1) = p := ⟨_, rfl⟩
  rw [hpw]
  obtain ⟨b2, hb2⟩ : ∃ y, bd * bd = y := ⟨_, rfl⟩
  rw [hb2] at hq hbbb hbb0
  have hb2w : IntKind.i64.wrap b2 = b2 := IntWalk.i64_in _ (by omega)
  have hfm1 : IntKind.i64.wrap (f - m) = f - m := IntWalk.i64_in _ (by omega)
  have hfm2 : IntKind.i64.wrap (f + m) = f + m := IntWalk.i64_in _ (by omega)
  have hDw : IntKind.i64.wrap ((D : Int) - 1) = (k : Int) := by rw [IntWalk.i64_in _ (by omega)]; omega
  have hf1b : f ≤ 100000 := by omega
  obtain ⟨xa, hxa⟩ : ∃ y, f - m = y := ⟨_, rfl⟩
  obtain ⟨xc, hxc⟩ : ∃ y, f + m = y := ⟨_, rfl⟩
  have HXA := Lib.hid (show xa = f - m from hxa.symm)
  have HXB := Lib.hid (show f = f from rfl)
  have HXC := Lib.hid (show xc = f + m from hxc.symm)
  have hxba : -100000 ≤ xa ∧ xa ≤ 200000 := by omega
  have hxbb : -100000 ≤ f ∧ f ≤ 200000 := by omega
  have hxbc : -100000 ≤ xc ∧ xc ≤ 200000 := by omega
  rw [hxa] at hfm1
  rw [hxc] at hfm2
  have HSM := Lib.hid (show ∀ x, sqL (x :: b) ≤ bd * bd → SmL (x :: b) from fun x h => sm_of_sq h (by omega) (by simp; omega))
  obtain ⟨bb, hbb⟩ : ∃ b, w.heap.size = b := ⟨_, rfl⟩
  rw [hbb] at hbne HB0
  have HBB := Lib.hid hbb
  clear hs hk hc hxi hgne hB hA hlt hS hs0 hpw hBB hbb hr hf hbl
  go_enter Try.func34, Try.ntmps34
  go_wp2_with fail
  obtain ⟨W, hW⟩ : ∃ x, w.alloc (.cells #[.int .i64 m, .int .i64 a, .int .i64 ad] 27) = x := ⟨_, rfl⟩
  rw [hW] at HB0 HK0 ⊢
  clear hW
  try rw [HBB.out]
  obtain ⟨y0, y1, y2⟩ := HB0.out
  go_wp2_with fail
  refine (HFM.out _).mono ?_
  rintro e w' ⟨rfl, rfl⟩
  go_wp2_with fail
  clear y0 y1 y2 hxa hxc
  have hix := fun x y z w => (Try.index3 x y z w).1
  have hiy := fun x y z w => (Try.index3 x y z w).2.1
  have hiz := fun x y z w => (Try.index3 x y z w).2.2
  go_loopw [89] (fun v89 wr => ∃ (j : Nat) (o2 : Option (List Int)), v89 = .int .i64 (j : Nat) ∧ j ≤ 3 ∧ Hid (WvK w wr B bx D a m bd o o2) ∧ Hid ((1 ≤ j → oneS BB o2 (xa :: b)) ∧ (2 ≤ j → oneS BB o2 (f :: b)) ∧ (3 ≤ j → oneS BB o2 (xc :: b)))) (fun v89 _ => 3 - (intOf v89).toNat)
  case atStart => exact ⟨0, o, rfl, by omega, HK0, Lib.hid ⟨fun h => absurd h (by omega), fun h => absurd h (by omega), fun h => absurd h (by omega)⟩⟩
  case round =>
    obtain ⟨j, o2, rfl, hj3, HK, HON⟩ := hrel
    have HXW := Lib.hid (HX0.out.gx (HK.out.gx) HLE.out.2.1)
    rcases (show j = 0 ∨ j = 1 ∨ j = 2 ∨ j = 3 by omega) with rfl | rfl | rfl | rfl
    · have HXE := HXA
      have hxb := hxba
      obtain ⟨q, hq2⟩ : ∃ q, xa * xa = q := ⟨_, rfl⟩
      have hqb : 0 ≤ q ∧ q ≤ 40000000000 := by
        rw [← hq2]
        refine ⟨sq_nn xa, ?_⟩
        have := @sq_le xa 200000 (by omega)
        omega
      have hqw : IntKind.i64.wrap q = q := IntWalk.i64_in _ (by omega)
      have hsqw : IntKind.i64.wrap (s0 + q) = s0 + q := IntWalk.i64_in _ (by omega)
      have HQ := Lib.hid (show sqL (xa :: b) = s0 + q by rw [sqL, HS0.out, hq2]; omega)
      by_cases hle : s0 + q ≤ b2
      · have HSX := Lib.hid (show sqL (xa :: b) ≤ bd * bd by rw [HQ.out, hb2]; exact hle)
        have HLT := Lib.hid (show B ≤ wr.heap.size from Nat.le_trans HLE.out.1 HK.out.gx.size)
        go_wp2_with fail
        have HLL := Lib.hid (ll_two wr xa 2 24 (some ⟨g, off, none⟩) k cap)
        obtain ⟨w1, hw1⟩ : ∃ y, (wr.alloc (.cells #[.int .i64 xa] 2)).alloc (.cells #[.slice (some ⟨wr.heap.size, 0, none⟩) 1 1, .slice (some ⟨g, off, none⟩) k cap] 24) = y := ⟨_, rfl⟩
        rw [hw1] at HLL ⊢
        clear hw1
        refine (concat_any _ _ g off k cap xa b w1 (by omega) HLL.out.1 HLL.out.2.1 HLL.out.2.2.1 (HXW.out.below HLL.out.2.2.2)).mono ?_
        rintro e w2 ⟨v, rfl, hg⟩
        obtain ⟨g6, c6, rfl⟩ := own_first hg.1 (by simp)
        rw [show (xa :: b).length = D from HLE.out.2.2] at hg ⊢
        have HG := Lib.hid hg
        have HB2 := Lib.hid (bthen HLL.out.2.2.2 hg.2)
        clear hg
        go_wp2_with fail
        refine (offer_any B bx D o2 g6 0 c6 (xa :: b) w2 (Nat.le_trans HLT.out HB2.out.size) (HK.out.sl.all HB2.out) (IsInts.of_own HG.out.1) (HSM.out xa HSX.out) (fun c e => ⟨sm_of_sq (HK.out.sq c e) (by omega) (by rw [IsWv.hl c (HK.out.ok c e)]; omega), IsWv.hl c (HK.out.ok c e)⟩) (by omega) hD4).mono ?_
        rintro e w3 ⟨rfl, hsl, hgx⟩
        have HKN := Lib.hid (show WvK w w3 B bx D a m bd o (ofO o2 (xa :: b)) from ⟨hsl, HK.out.gx.trans ((Gx.below HB2.out).trans hgx), ofO_ok HK.out.ok (fun hp => wv_of HLE.out.2.2 HF.out (Or.inl HXE.out) hp), ofO_sq HK.out.sq HSX.out, leO_trans IsWv.hl HKOK.out HK.out.ok (ofO_ok HK.out.ok (fun hp => wv_of HLE.out.2.2 HF.out (Or.inl HXE.out) hp)) (ofO_le _ _) HK.out.le⟩)
        have HON2 := Lib.hid (show (1 ≤ 1 → oneS BB (ofO o2 (xa :: b)) (xa :: b)) ∧ (2 ≤ 1 → oneS BB (ofO o2 (xa :: b)) (f :: b)) ∧ (3 ≤ 1 → oneS BB (ofO o2 (xa :: b)) (xc :: b)) from ⟨fun _ => (fun hp _ => ofO_ge hp), fun h => absurd h (by omega), fun h => absurd h (by omega)⟩)
        clear hsl hgx
        go_wp2_with fail
        go_roundw
        case rel => exact ⟨1, _, rfl, by omega, HKN, HON2⟩
        case measure => simp [intOf]
      · have HON2 := Lib.hid (show (1 ≤ 1 → oneS BB o2 (xa :: b)) ∧ (2 ≤ 1 → oneS BB o2 (f :: b)) ∧ (3 ≤ 1 → oneS BB o2 (xc :: b)) from ⟨fun _ => (fun _ hb => absurd hb (by rw [HQ.out]; have := HBB2.out.1.1; omega)), fun h => absurd h (by omega), fun h => absurd h (by omega)⟩)
        go_wp2_with fail
        go_roundw
        case rel => exact ⟨1, o2, rfl, by omega, HK, HON2⟩
        case measure => simp [intOf]
    · have HXE := HXB
      have hxb := hxbb
      obtain ⟨q, hq2⟩ : ∃ q, f * f = q := ⟨_, rfl⟩
      have hqb : 0 ≤ q ∧ q ≤ 40000000000 := by
        rw [← hq2]
        refine ⟨sq_nn f, ?_⟩
        have := @sq_le f 200000 (by omega)
        omega
      have hqw : IntKind.i64.wrap q = q := IntWalk.i64_in _ (by omega)
      have hsqw : IntKind.i64.wrap (s0 + q) = s0 + q := IntWalk.i64_in _ (by omega)
      have HQ := Lib.hid (show sqL (f :: b) = s0 + q by rw [sqL, HS0.out, hq2]; omega)
      by_cases hle : s0 + q ≤ b2
      · have HSX := Lib.hid (show sqL (f :: b) ≤ bd * bd by rw [HQ.out, hb2]; exact hle)
        have HLT := Lib.hid (show B ≤ wr.heap.size from Nat.le_trans HLE.out.1 HK.out.gx.size)
        go_wp2_with fail
        have HLL := Lib.hid (ll_two wr f 2 24 (some ⟨g, off, none⟩) k cap)
        obtain ⟨w1, hw1⟩ : ∃ y, (wr.alloc (.cells #[.int .i64 f] 2)).alloc (.cells #[.slice (some ⟨wr.heap.size, 0, none⟩) 1 1, .slice (some ⟨g, off, none⟩) k cap] 24) = y := ⟨_, rfl⟩
        rw [hw1] at HLL ⊢
        clear hw1
        refine (concat_any _ _ g off k cap f b w1 (by omega) HLL.out.1 HLL.out.2.1 HLL.out.2.2.1 (HXW.out.below HLL.out.2.2.2)).mono ?_
        rintro e w2 ⟨v, rfl, hg⟩
        obtain ⟨g6, c6, rfl⟩ := own_first hg.1 (by simp)
        rw [show (f :: b).length = D from HLE.out.2.2] at hg ⊢
        have HG := Lib.hid hg
        have HB2 := Lib.hid (bthen HLL.out.2.2.2 hg.2)
        clear hg
        go_wp2_with fail
        refine (offer_any B bx D o2 g6 0 c6 (f :: b) w2 (Nat.le_trans HLT.out HB2.out.size) (HK.out.sl.all HB2.out) (IsInts.of_own HG.out.1) (HSM.out f HSX.out) (fun c e => ⟨sm_of_sq (HK.out.sq c e) (by omega) (by rw [IsWv.hl c (HK.out.ok c e)]; omega), IsWv.hl c (HK.out.ok c e)⟩) (by omega) hD4).mono ?_
        rintro e w3 ⟨rfl, hsl, hgx⟩
        have HKN := Lib.hid (show WvK w w3 B bx D a m bd o (ofO o2 (f :: b)) from ⟨hsl, HK.out.gx.trans ((Gx.below HB2.out).trans hgx), ofO_ok HK.out.ok (fun hp => wv_of HLE.out.2.2 HF.out (Or.inr (Or.inl rfl)) hp), ofO_sq HK.out.sq HSX.out, leO_trans IsWv.hl HKOK.out HK.out.ok (ofO_ok HK.out.ok (fun hp => wv_of HLE.out.2.2 HF.out (Or.inr (Or.inl rfl)) hp)) (ofO_le _ _) HK.out.le⟩)
        have HON2 := Lib.hid (show (1 ≤ 2 → oneS BB (ofO o2 (f :: b)) (xa :: b)) ∧ (2 ≤ 2 → oneS BB (ofO o2 (f :: b)) (f :: b)) ∧ (3 ≤ 2 → oneS BB (ofO o2 (f :: b)) (xc :: b)) from ⟨fun _ => oneS.mono IsWv.hl (by simpa using HLE.out.2.2) HK.out.ok HKN.out.ok (ofO_le _ _) (HON.out.1 (by omega)), fun _ => (fun hp _ => ofO_ge hp), fun h => absurd h (by omega)⟩)
        clear hsl hgx
        go_wp2_with fail
        go_roundw
        case rel => exact ⟨2, _, rfl, by omega, HKN, HON2⟩
        case measure => simp [intOf]
      · have HON2 := Lib.hid (show (1 ≤ 2 → oneS BB o2 (xa :: b)) ∧ (2 ≤ 2 → oneS BB o2 (f :: b)) ∧ (3 ≤ 2 → oneS BB o2 (xc :: b)) from ⟨fun _ => HON.out.1 (by omega), fun _ => (fun _ hb => absurd hb (by rw [HQ.out]; have := HBB2.out.1.1; omega)), fun h => absurd h (by omega)⟩)
        go_wp2_with fail
        go_roundw
        case rel => exact ⟨2, o2, rfl, by omega, HK, HON2⟩
        case measure => simp [intOf]
    · have HXE := HXC
      have hxb := hxbc
      obtain ⟨q, hq2⟩ : ∃ q, xc * xc = q := ⟨_, rfl⟩
      have hqb : 0 ≤ q ∧ q ≤ 40000000000 := by
        rw [← hq2]
        refine ⟨sq_nn xc, ?_⟩
        have := @sq_le xc 200000 (by omega)
        omega
      have hqw : IntKind.i64.wrap q = q := IntWalk.i64_in _ (by omega)
      have hsqw : IntKind.i64.wrap (s0 + q) = s0 + q := IntWalk.i64_in _ (by omega)
      have HQ := Lib.hid (show sqL (xc :: b) = s0 + q by rw [sqL, HS0.out, hq2]; omega)
      by_cases hle : s0 + q ≤ b2
      · have HSX := Lib.hid (show sqL (xc :: b) ≤ bd * bd by rw [HQ.out, hb2]; exact hle)
        have HLT := Lib.hid (show B ≤ wr.heap.size from Nat.le_trans HLE.out.1 HK.out.gx.size)
        go_wp2_with fail
        have HLL := Lib.hid (ll_two wr xc 2 24 (some ⟨g, off, none⟩) k cap)
        obtain ⟨w1, hw1⟩ : ∃ y, (wr.alloc (.cells #[.int .i64 xc] 2)).alloc (.cells #[.slice (some ⟨wr.heap.size, 0, none⟩) 1 1, .slice (some ⟨g, off, none⟩) k cap] 24) = y := ⟨_, rfl⟩
        rw [hw1] at HLL ⊢
        clear hw1
        refine (concat_any _ _ g off k cap xc b w1 (by omega) HLL.out.1 HLL.out.2.1 HLL.out.2.2.1 (HXW.out.below HLL.out.2.2.2)).mono ?_
        rintro e w2 ⟨v, rfl, hg⟩
        obtain ⟨g6, c6, rfl⟩ := own_first hg.1 (by simp)
        rw [show (xc :: b).length = D from HLE.out.2.2] at hg ⊢
        have HG := Lib.hid hg
        have HB2 := Lib.hid (bthen HLL.out.2.2.2 hg.2)
        clear hg
        go_wp2_with fail
        refine (offer_any B bx D o2 g6 0 c6 (xc :: b) w2 (Nat.le_trans HLT.out HB2.out.size) (HK.out.sl.all HB2.out) (IsInts.of_own HG.out.1) (HSM.out xc HSX.out) (fun c e => ⟨sm_of_sq (HK.out.sq c e) (by omega) (by rw [IsWv.hl c (HK.out.ok c e)]; omega), IsWv.hl c (HK.out.ok c e)⟩) (by omega) hD4).mono ?_
        rintro e w3 ⟨rfl, hsl, hgx⟩
        have HKN := Lib.hid (show WvK w w3 B bx D a m bd o (ofO o2 (xc :: b)) from ⟨hsl, HK.out.gx.trans ((Gx.below HB2.out).trans hgx), ofO_ok HK.out.ok (fun hp => wv_of HLE.out.2.2 HF.out (Or.inr (Or.inr HXE.out)) hp), ofO_sq HK.out.sq HSX.out, leO_trans IsWv.hl HKOK.out HK.out.ok (ofO_ok HK.out.ok (fun hp => wv_of HLE.out.2.2 HF.out (Or.inr (Or.inr HXE.out)) hp)) (ofO_le _ _) HK.out.le⟩)
        have HON2 := Lib.hid (show (1 ≤ 3 → oneS BB (ofO o2 (xc :: b)) (xa :: b)) ∧ (2 ≤ 3 → oneS BB (ofO o2 (xc :: b)) (f :: b)) ∧ (3 ≤ 3 → oneS BB (ofO o2 (xc :: b)) (xc :: b)) from ⟨fun _ => oneS.mono IsWv.hl (by simpa using HLE.out.2.2) HK.out.ok HKN.out.ok (ofO_le _ _) (HON.out.1 (by omega)), fun _ => oneS.mono IsWv.hl (by simpa using HLE.out.2.2) HK.out.ok HKN.out.ok (ofO_le _ _) (HON.out.2.1 (by omega)), fun _ => (fun hp _ => ofO_ge hp)⟩)
        clear hsl hgx
        go_wp2_with fail
        go_roundw
        case rel => exact ⟨3, _, rfl, by omega, HKN, HON2⟩
        case measure => simp [intOf]
      · have HON2 := Lib.hid (show (1 ≤ 3 → oneS BB o2 (xa :: b)) ∧ (2 ≤ 3 → oneS BB o2 (f :: b)) ∧ (3 ≤ 3 → oneS BB o2 (xc :: b)) from ⟨fun _ => HON.out.1 (by omega), fun _ => HON.out.2.1 (by omega), fun _ => (fun _ hb => absurd hb (by rw [HQ.out]; have := HBB2.out.1.1; omega))⟩)
        go_wp2_with fail
        go_roundw
        case rel => exact ⟨3, o2, rfl, by omega, HK, HON2⟩
        case measure => simp [intOf]
    · have HEND := Lib.hid (show seenO (IsWv a m D) BB o2 b from seenO.last hm0 HLE.out.2.2 ⟨hf1, hf2⟩ HF.out HBB2.out.1.2 (fun x hx hp hq => by
        rcases hx with e | e | e
        · rw [← HXA.out] at e; subst e; exact HON.out.1 (by omega) hp hq
        · subst e; exact HON.out.2.1 (by omega) hp hq
        · rw [← HXC.out] at e; subst e; exact HON.out.2.2 (by omega) hp hq))
      go_wp2_with fail
      go_end0
      exact ⟨rfl, o2, HK.out, HEND.out⟩
set_option maxRecDepth 100000 in
set_option maxHeartbeats 3200000 in
theorem waves_succ (B bx D : Nat) (a m ad bd BB : Int) (r : Nat) (hm : 2 ≤ m ∧ m ≤ 100000) (ha : 0 ≤ a ∧ a < m) (hD : 2 ≤ D) (hD4 : D ≤ 4) (hbd : 0 ≤ bd ∧ bd ≤ 200000) (hBB : BB ≤ bd * bd ∧ BB ≤ m * m) (ih : WavC Try.prog 34 B bx D a m ad bd BB r) : WavC Try.prog 34 B bx D a m ad bd BB (r + 1) := by
  intro b o ar k cap w hB hr hs hk hc hx hq
  have hbbb : bd * bd ≤ 40000000000 := Int.mul_le_mul (b := bd) (d := 200000) (a := bd) (c := 200000) (by omega) (by omega) (by omega) (by omega)
  have hbb0 := sq_nn bd
  have HBB2 := Lib.hid (And.intro hBB (And.intro hbbb hbb0))
  have hA := (Below.refl _ w).alloc (Nat.le_refl _) (.cells #[.int .i64 m, .int .i64 a, .int .i64 ad] 27)
  have hlt := hs.lt
  have hbne : w.heap.size ≠ bx := by omega
  have HB0 := Lib.hid (Box3.new w 27 m a ad)
  have HX0 := Lib.hid (hx.bel hA)
  have HK0 := Lib.hid (show WvK (w.alloc (.cells #[.int .i64 m, .int .i64 a, .int .i64 ad] 27)) (w.alloc (.cells #[.int .i64 m, .int .i64 a, .int .i64 ad] 27)) B bx D a m bd o o from ⟨hs.all hA, Gx.refl _ _, hk, hc, leO_refl _⟩)
  have HKOK := Lib.hid hk
  have HGA := Lib.hid (show Gx w (w.alloc (.cells #[.int .i64 m, .int .i64 a, .int .i64 ad] 27)) bx from Gx.below hA)
  have hbl := hx.1
  have HLEN := Lib.hid (show r + (k + 1 + 1) = D by omega)
  have HBL := Lib.hid (show b.length = k from hbl)
  have HBW1 := Lib.hid (show B ≤ w.heap.size from hB)
  have HIH := Lib.hid ih
  have hk3 : k ≤ 2 := by omega
  have hm0 : 0 < m := by omega
  have m0 : ¬ m = 0 := by omega
  have m1 : ¬ m = -1 := by omega
  have mb : (m == 0) = false := by simpa using m0
  have hs1 := Int.emod_nonneg (wS a m 0 b) (show m ≠ 0 by omega)
  have hs2 := Int.emod_lt_of_pos (wS a m 0 b) hm0
  obtain ⟨S, hS⟩ : ∃ S, wS a m 0 b % m = S := ⟨_, rfl⟩
  rw [hS] at hs1 hs2 ⊢
  have HS := Lib.hid hS
  have hpb := pwM_bd (a := a) (m := m) (by omega) (k + 1)
  have hpb2 := pwM_bd (a := a) (m := m) (by omega) (k + 1 + 1)
  have hpp : pwM a m (k + 1 + 1) = (pwM a m (k + 1) * a) % m := rfl
  obtain ⟨pw, hpw⟩ : ∃ p, pwM a m (k + 1) = p := ⟨_, rfl⟩
  obtain ⟨p2, hp2⟩ : ∃ p, pwM a m (k + 1 + 1) = p := ⟨_, rfl⟩
  rw [hpw] at hpb hpp ⊢
  rw [hp2] at hpb2 hpp
  have HPW := Lib.hid hpw
  have HP2 := Lib.hid hp2
  have hpa0 : 0 ≤ pw * a ∧ pw * a ≤ 10000000000 := ⟨Int.mul_nonneg hpb.1 (by omega), Int.mul_le_mul (b := a) (d := 100000) (a := pw) (c := 100000) (by omega) (by omega) (by omega) (by omega)⟩
  have hpt : (pw * a).tmod m = p2 := by rw [Int.tmod_eq_emod_of_nonneg hpa0.1, hpp]
  obtain ⟨pa, hpa⟩ : ∃ t, pw * a = t := ⟨_, rfl⟩
  rw [hpa] at hpa0 hpt
  have hpaw : IntKind.i64.wrap pa = pa := IntWalk.i64_in _ (by omega)
  have hp2w : IntKind.i64.wrap p2 = p2 := IntWalk.i64_in _ (by omega)
  have hsq0 := sqL_nonneg b
  obtain ⟨s0, hs0⟩ : ∃ s, sqL b = s := ⟨_, rfl⟩
  rw [hs0] at hq hsq0 ⊢
  have HS0 := Lib.hid hs0
  obtain ⟨b2, hb2⟩ : ∃ y, bd * bd = y := ⟨_, rfl⟩
  rw [hb2] at hq hbbb hbb0
  have HQ0 := Lib.hid hb2
  have hb2w : IntKind.i64.wrap b2 = b2 := IntWalk.i64_in _ (by omega)
  obtain ⟨D1, hD1⟩ : ∃ d, D - 1 = d := ⟨_, rfl⟩
  have hDw : IntKind.i64.wrap ((D : Int) - 1) = (D1 : Int) := by rw [IntWalk.i64_in _ (by omega)]; omega
  have hkD : (k : Int) < (D1 : Int) := by omega
  have hnb : IntKind.i64.wrap (-bd) = -bd := IntWalk.i64_in _ (by omega)
  have HEND := Lib.hid (show ∀ o', (∀ y : Int, -bd ≤ y → y < bd + 1 → seenO (IsWv a m D) BB o' (b ++ [y])) → seenO (IsWv a m D) BB o' b from fun o' h => seenO.next (bd := bd) (by omega) hbd.1 hBB.1 (fun y h1 h2 => h y h1 (by omega)))
  obtain ⟨bb, hbb⟩ : ∃ b, w.heap.size = b := ⟨_, rfl⟩
  rw [hbb] at hbne HB0
  have HBB := Lib.hid hbb
  clear hs hk hc hx hB hA hlt hS hs0 hpw hp2 hpp hBB hbb hr hbl ih hD1
  go_enter Try.func34, Try.ntmps34
  go_wp2_with fail
  obtain ⟨w1, hw1⟩ : ∃ x, w.alloc (.cells #[.int .i64 m, .int .i64 a, .int .i64 ad] 27) = x := ⟨_, rfl⟩
  rw [hw1] at HB0 HX0 HK0 HGA ⊢
  clear hw1
  try rw [HBB.out]
  have HBW0 := Lib.hid (show B ≤ w1.heap.size from Nat.le_trans HBW1.out HGA.out.size)
  go_loopw [16] (fun v16 wr => ∃ (x : Int) (o2 : Option (List Int)), v16 = .int .i64 x ∧ -bd ≤ x ∧ x ≤ bd + 1 ∧ Hid (WvK w1 wr B bx D a m bd o o2) ∧ Hid (∀ y : Int, -bd ≤ y → y < x → seenO (IsWv a m D) BB o2 (b ++ [y]))) (fun v16 _ => (300000 - intOf v16).toNat)
  case atStart => exact ⟨-bd, o, rfl, by omega, by omega, HK0, Lib.hid (fun y h1 h2 => absurd h1 (by omega))⟩
  case round =>
    obtain ⟨x, o2, rfl, hx0, hx1, HPI, HSN⟩ := hrel
    by_cases hxb : x ≤ bd
    · have hqb : 0 ≤ x * x ∧ x * x ≤ 40000000000 := by
        refine ⟨sq_nn x, ?_⟩
        have := @sq_le x 200000 (by omega)
        omega
      obtain ⟨q, hq2⟩ : ∃ q, x * x = q := ⟨_, rfl⟩
      rw [hq2] at hqb
      have HX2 := Lib.hid hq2
      have hqw : IntKind.i64.wrap q = q := IntWalk.i64_in _ (by omega)
      have hsqw : IntKind.i64.wrap (s0 + q) = s0 + q := IntWalk.i64_in _ (by omega)
      have hx1w : IntKind.i64.wrap (x + 1) = x + 1 := IntWalk.i64_in _ (by omega)
      have HSX := Lib.hid (show sqL (b ++ [x]) = s0 + q by rw [sqL_push, HS0.out, hq2])
      by_cases hle : s0 + q ≤ b2
      · have HSQ := Lib.hid (show sqL (b ++ [x]) ≤ bd * bd by rw [HSX.out, HQ0.out]; exact hle)
        have HBX := Lib.hid (show Box3 wr bb m a ad from HB0.out.gx HPI.out.gx hbne)
        have HBG := Lib.hid (HX0.out.gx HPI.out.gx)
        have HBW := Lib.hid (show B ≤ wr.heap.size from Nat.le_trans HBW0.out HPI.out.gx.size)
        have HLT := Lib.hid HPI.out.sl.lt
        have hu1 := Int.emod_nonneg x (show m ≠ 0 by omega)
        have hu2 := Int.emod_lt_of_pos x hm0
        have HF1 := Lib.hid (fun w => floorMod_any x m w hm0 (by omega))
        have hNN : (S + pw * (x % m)) % m = wS a m 0 (b ++ [x]) % m := by
          rw [wS_push, show 0 + b.length + 1 = k + 1 by have := HBL.out; omega, HPW.out, ← HS.out]
          rw [Int.add_emod, Int.emod_emod_of_dvd _ (Int.dvd_refl m), Int.mul_emod, Int.emod_emod_of_dvd _ (Int.dvd_refl m), ← Int.mul_emod, ← Int.add_emod]
        obtain ⟨u, hu⟩ : ∃ u, x % m = u := ⟨_, rfl⟩
        rw [hu] at hu1 hu2 HF1 hNN
        have hpu : 0 ≤ pw * u ∧ pw * u ≤ 10000000000 := ⟨Int.mul_nonneg hpb.1 hu1, Int.mul_le_mul (b := u) (d := 100000) (a := pw) (c := 100000) (by omega) (by omega) (by omega) (by omega)⟩
        obtain ⟨pu, hpue⟩ : ∃ t, pw * u = t := ⟨_, rfl⟩
        rw [hpue] at hpu hNN
        have hpuw : IntKind.i64.wrap pu = pu := IntWalk.i64_in _ (by omega)
        have hspw : IntKind.i64.wrap (S + pu) = S + pu := IntWalk.i64_in _ (by omega)
        have HF2 := Lib.hid (fun w => floorMod_any (S + pu) m w hm0 (by omega))
        obtain ⟨N, hN⟩ : ∃ N, (S + pu) % m = N := ⟨_, rfl⟩
        rw [hN] at HF2 hNN
        have HNX := Lib.hid hNN.symm
        clear hNN hN hu
        obtain ⟨y0, y1, y2⟩ := HBX.out
        go_upto_region 7 with fail
        go_quiet ((go_at_call 61; (first | (with_reducible exact Calls.quiet_of_same (HF1.out _)) | (with_reducible exact Calls.quiet_of_same (HF2.out _)))))
        clear y0 y1 y2
        have HPI1 := Lib.hid (show WvK w1 (wr.drewN nq) B bx D a m bd o o2 from ⟨HPI.out.sl.all (drewN_below _ nq), HPI.out.gx.trans (Gx.below (drewN_below _ nq)), HPI.out.ok, HPI.out.sq, HPI.out.le⟩)
        have HBX1 := Lib.hid (show Box3 (wr.drewN nq) bb m a ad from HBX.out.gx (Gx.below (b := bx) (drewN_below _ nq)) hbne)
        have HBG1 := Lib.hid (HBG.out.gx (Gx.below (b := bx) (drewN_below _ nq)))
        have HBW2 := Lib.hid (show B ≤ (wr.drewN nq).heap.size from Nat.le_trans HBW.out (drewN_below _ nq).size)
        have HLT1 := Lib.hid (show bx < (wr.drewN nq).heap.size from Nat.lt_of_lt_of_le HLT.out (drewN_below _ nq).size)
        obtain ⟨wq, hwq⟩ : ∃ x, wr.drewN nq = x := ⟨_, rfl⟩
        rw [hwq] at HPI1 HBX1 HBG1 HBW2 HLT1 ⊢
        clear hwq HPI HBX HBG HBW HLT
        obtain ⟨wr, rfl⟩ : ∃ z, z = wq := ⟨_, rfl⟩
        have HPI := HPI1
        have HBX := HBX1
        have HBG := HBG1
        have HBW := HBW2
        have HLT := HLT1
        clear HPI1 HBX1 HBG1 HBW2 HLT1
        obtain ⟨y0, y1, y2⟩ := HBX.out
        go_upto_region 8 with fail
        have HSA : Hid (∀ w', Below wr.heap.size wr w' → w'.cell? ⟨bb, 0, none⟩ = some (.int .i64 m) ∧ w'.cell? ⟨bb, 1, none⟩ = some (.int .i64 a) ∧ w'.cell? ⟨bb, 2, none⟩ = some (.int .i64 ad)) := Lib.hid (fun w' hb => ⟨(hb.cell (p := ⟨bb, 0, none⟩) (World.block_lt_of_cell? wr _ HBX.out.1)).trans HBX.out.1, (hb.cell (p := ⟨bb, 1, none⟩) (World.block_lt_of_cell? wr _ HBX.out.2.1)).trans HBX.out.2.1, (hb.cell (p := ⟨bb, 2, none⟩) (World.block_lt_of_cell? wr _ HBX.out.2.2)).trans HBX.out.2.2⟩)
        have HB := Lib.hid ((Below.refl wr.heap.size wr).drew)
        have hS := HSA.out _ HB.out
        refine wp_region_any (by kernel_rfl) (any_of_K (k := 18) (S := fun _ => True) (T := fun w' => w'.cell? ⟨bb, 0, none⟩ = some (.int .i64 m) ∧ w'.cell? ⟨bb, 1, none⟩ = some (.int .i64 a) ∧ w'.cell? ⟨bb, 2, none⟩ = some (.int .i64 ad)) _ _ _ _ ?_)
        change anyK _ _ _ _ _ _ _ _ _ _ (World.drew wr)
        obtain ⟨v, hv⟩ : ∃ w', wr.drew = w' := ⟨_, rfl⟩
        rw [hv] at HB hS ⊢
        clear hv
        refine anyT_take (i := 0) (n := 18) (v := .pointer (some ⟨bx, 0, none⟩)) rfl (by decide) (by kernel_rfl) (by kernel_rfl) (by kernel_rfl) (fun _ _ _ h => h) (Or.inl ⟨by kernel_rfl, fun w' hw => by go_simp⟩) trivial hS ?_
        refine anyT_take (i := 1) (n := 17) (v := .agg #[.int .i64 m, .int .i64 a, .int .i64 ad]) rfl (by decide) (by kernel_rfl) (by kernel_rfl) (by kernel_rfl) (fun _ _ _ h => h) (Or.inl ⟨by kernel_rfl, fun w' hw => by (obtain ⟨z0, z1, z2⟩ := hw; go_simp)⟩) trivial hS ?_
        refine anyT_take (i := 2) (n := 16) (v := .int .i64 (D : Nat)) rfl (by decide) (by kernel_rfl) (by kernel_rfl) (by kernel_rfl) (fun _ _ _ h => h) (Or.inl ⟨by kernel_rfl, fun w' hw => by go_simp⟩) trivial hS ?_
        refine anyT_take (i := 3) (n := 15) (v := .slice ar k cap) rfl (by decide) (by kernel_rfl) (by kernel_rfl) (by kernel_rfl) (fun _ _ _ h => h) (Or.inl ⟨by kernel_rfl, fun w' hw => by go_simp⟩) trivial hS ?_
        refine anyT_take (i := 5) (n := 14) (v := .int .i64 x) rfl (by decide) (by kernel_rfl) (by kernel_rfl) (by kernel_rfl) (fun _ _ _ h => h) (Or.inl ⟨by kernel_rfl, fun w' hw => by go_simp⟩) trivial hS ?_
        refine anyT_take (i := 8) (n := 13) (v := .int .i64 (s0 + q)) rfl (by decide) (by kernel_rfl) (by kernel_rfl) (by kernel_rfl) (fun _ _ _ h => h) (Or.inl ⟨by kernel_rfl, fun w' hw => by go_simp⟩) trivial hS ?_
        refine anyT_take (i := 9) (n := 12) (v := .int .i64 N) rfl (by decide) (by kernel_rfl) (by kernel_rfl) (by kernel_rfl) (fun _ _ _ h => h) (Or.inl ⟨by kernel_rfl, fun w' hw => by go_simp⟩) trivial hS ?_
        refine anyT_take (i := 10) (n := 11) (v := .int .i64 pw) rfl (by decide) (by kernel_rfl) (by kernel_rfl) (by kernel_rfl) (fun _ _ _ h => h) (Or.inl ⟨by kernel_rfl, fun w' hw => by go_simp⟩) trivial hS ?_
        refine anyT_take (i := 11) (n := 10) (v := .pointer (some ⟨bb, 1, none⟩)) rfl (by decide) (by kernel_rfl) (by kernel_rfl) (by kernel_rfl) (fun _ _ _ h => h) (Or.inl ⟨by kernel_rfl, fun w' hw => by go_simp⟩) trivial hS ?_
        refine anyT_take (i := 12) (n := 9) (v := .int .i64 a) rfl (by decide) (by kernel_rfl) (by kernel_rfl) (by kernel_rfl) (fun _ _ _ h => h) (Or.inl ⟨by kernel_rfl, fun w' hw => by (obtain ⟨z0, z1, z2⟩ := hw; go_simp)⟩) trivial hS ?_
        refine anyT_take (i := 13) (n := 8) (v := .int .i64 pa) rfl (by decide) (by kernel_rfl) (by kernel_rfl) (by kernel_rfl) (fun _ _ _ h => h) (Or.inl ⟨by kernel_rfl, fun w' hw => by go_simp⟩) trivial hS ?_
        refine anyT_take (i := 14) (n := 7) (v := .pointer (some ⟨bb, 0, none⟩)) rfl (by decide) (by kernel_rfl) (by kernel_rfl) (by kernel_rfl) (fun _ _ _ h => h) (Or.inl ⟨by kernel_rfl, fun w' hw => by go_simp⟩) trivial hS ?_
        refine anyT_take (i := 15) (n := 6) (v := .int .i64 m) rfl (by decide) (by kernel_rfl) (by kernel_rfl) (by kernel_rfl) (fun _ _ _ h => h) (Or.inl ⟨by kernel_rfl, fun w' hw => by (obtain ⟨z0, z1, z2⟩ := hw; go_simp)⟩) trivial hS ?_
        refine anyT_take (i := 16) (n := 5) (v := .int .i64 p2) rfl (by decide) (by kernel_rfl) (by kernel_rfl) (by kernel_rfl) (fun _ _ _ h => h) (Or.inl ⟨by kernel_rfl, fun w' hw => by go_simp⟩) trivial hS ?_
        refine anyT_take (i := 17) (n := 4) (v := .int .i64 bd) rfl (by decide) (by kernel_rfl) (by kernel_rfl) (by kernel_rfl) (fun _ _ _ h => h) (Or.inl ⟨by kernel_rfl, fun w' hw => by go_simp⟩) trivial hS ?_
        refine anyK_all (n := 3) (rs := [4, 6]) (by kernel_rfl) (by simp) (fun i hi => ?_)
        simp only [List.mem_cons, List.not_mem_nil, or_false] at hi
        rcases hi with rfl | rfl
        · refine wpOp_step rfl (fun K' hK => ?_)
          go_simp
          refine (cloneR_any (HBG.out.bel HB.out) (by omega)).mono ?_
          rintro e v1 ⟨a2, c2, rfl, hg⟩
          have hA := (Below.refl _ v1).alloc (Nat.le_refl _) (.cells #[.int .i64 x] 2)
          have HOW := Lib.hid (hg.1.alloc (.cells #[.int .i64 x] 2))
          have HBA := Lib.hid (bthen hg.2 hA)
          have HSZ := Lib.hid (show v.heap.size ≤ (v1.alloc (.cells #[.int .i64 x] 2)).heap.size from HBA.out.size)
          have hS1 := HSA.out _ (bthen HB.out hg.2)
          replace hS := HSA.out _ (bthen HB.out HBA.out)
          refine hK _ _ ⟨fun _ _ => trivial, hS1, ?_⟩
          clear hK hg hA hS1
          refine anyK_all (n := 2) (rs := [6]) (by kernel_rfl) (by simp) (fun i hi => ?_)
          simp only [List.mem_cons, List.not_mem_nil, or_false] at hi
          obtain rfl := hi
          refine wpOp_step rfl (fun K' hK => ?_)
          go_simp
          refine hK _ _ ⟨fun _ _ => trivial, hS, ?_⟩
          clear hK
          have hcell : (v1.alloc (.cells #[.int .i64 x] 2)).cell? ⟨v1.heap.size, 0, none⟩ = some (.int .i64 x) := by go_simp
          obtain ⟨v0, hv0⟩ : ∃ v0, v0 = v := ⟨_, rfl⟩
          subst hv0
          obtain ⟨b11, hb11⟩ : ∃ b, v1.heap.size = b := ⟨_, rfl⟩
          obtain ⟨vA, hvA⟩ : ∃ w', v1.alloc (.cells #[.int .i64 x] 2) = w' := ⟨_, rfl⟩
          rw [hvA] at hS HOW HBA HSZ
          rw [hvA, hb11] at hcell
          rw [hvA]
          try rw [hb11]
          clear hvA hb11
          refine anyK_all (n := 1) (rs := [7]) (by kernel_rfl) (by simp) (fun i hi => ?_)
          simp only [List.mem_cons, List.not_mem_nil, or_false] at hi
          obtain rfl := hi
          refine wpOp_step rfl (fun K' hK => ?_)
          refine step_ap1 rfl (.tmp 59) (.tmp 61) 24 rfl v0.heap.size 2 (.int .i64 0) 8 Try.underlying24 Try.infoI rfl (.slice a2 k c2) k _ rfl HOW.out b11 (.int .i64 x) rfl hcell rfl (by omega) (by omega) HSZ.out ?_
          intro v' w6 hown hgrow _
          obtain ⟨a6, c6, rfl⟩ := own_form hown
          obtain ⟨g6, hg6⟩ : ∃ g6, a6 = some ⟨g6, 0, none⟩ := by
            obtain ⟨g6, c7, e⟩ := own_first hown (by omega)
            injection e with e1 _ _
            exact ⟨g6, e1⟩
          subst hg6
          have hg6b := (hown.lt g6 rfl).1
          have HB6 := Lib.hid (show Below wr.heap.size wr w6 from bthen HB.out (below_grown HBA.out HOW.out hgrow HSZ.out))
          have HI6 := Lib.hid (show IsInts w6 (some ⟨g6, 0, none⟩) (k + 1) (b ++ [x]) from IsInts.of_own (by rw [List.map_append]; exact hown))
          have hgx : g6 ≠ bx := by have := HLT.out; have := HB.out.size; have := HBA.out.size; omega
          replace hS := HSA.out _ HB6.out
          refine hK _ _ ⟨fun _ _ => trivial, hS, ?_⟩
          clear hK hown hgrow
          have HCA := Lib.hid (HIH.out (b ++ [x]) o2 (some ⟨g6, 0, none⟩) (k + 1) c6 w6 (by have := HB6.out.size; have := HBW.out; omega) HLEN.out (HPI.out.sl.all HB6.out) HPI.out.ok HPI.out.sq ⟨HI6.out.1, Or.inr ⟨g6, 0, rfl, HI6.out, hgx⟩⟩ HSQ.out)
          rw [HSX.out, HNX.out, HP2.out] at HCA
          refine anyK_all (n := 0) (rs := [18]) (by kernel_rfl) (by simp) (fun i hi => ?_)
          simp only [List.mem_cons, List.not_mem_nil, or_false] at hi
          obtain rfl := hi
          refine wpOp_step rfl (fun K' hK => ?_)
          go_simp
          refine HCA.out.mono ?_
          rintro e w7 ⟨rfl, o3, hkn, hseen⟩
          have HPI2 := Lib.hid (show WvK w1 w7 B bx D a m bd o o3 from ⟨hkn.sl, HPI.out.gx.trans ((Gx.below HB6.out).trans hkn.gx), hkn.ok, hkn.sq, leO_trans IsWv.hl HKOK.out HPI.out.ok hkn.ok hkn.le HPI.out.le⟩)
          have HSN2 := Lib.hid (show ∀ y : Int, -bd ≤ y → y < x + 1 → seenO (IsWv a m D) BB o3 (b ++ [y]) from fun y hy hyx => by
            by_cases h : y = x
            · rw [h]; exact hseen
            · exact seenO.mono IsWv.hl HPI.out.ok hkn.ok hkn.le (HSN.out y hy (by omega)))
          refine hK _ _ ⟨(fun h => absurd rfl h), HB0.out.gx HPI2.out.gx hbne, ?_⟩
          clear hK hkn hseen hS
          obtain ⟨z0, z1, z2⟩ := HB0.out.gx HPI2.out.gx hbne
          refine ⟨by kernel_rfl, ?_⟩
          go_wp2_with fail
          go_roundw
          case rel => exact ⟨x + 1, o3, by go_num, by omega, by omega, HPI2, HSN2⟩
          case measure => simp [intOf] <;> omega
        · refine wpOp_step rfl (fun K' hK => ?_)
          go_simp
          have hA := (Below.refl _ v).alloc (Nat.le_refl _) (.cells #[.int .i64 x] 2)
          have HAB := Lib.hid hA
          have hS1 := HSA.out _ (bthen HB.out hA)
          refine hK _ _ ⟨fun _ _ => trivial, hS1, ?_⟩
          clear hK hA
          have hcell0 : (v.alloc (.cells #[.int .i64 x] 2)).cell? ⟨v.heap.size, 0, none⟩ = some (.int .i64 x) := by go_simp
          have hlt0 : v.heap.size < (v.alloc (.cells #[.int .i64 x] 2)).heap.size := by simp
          obtain ⟨b11, hb11⟩ : ∃ b, v.heap.size = b := ⟨_, rfl⟩
          obtain ⟨v0, hv0⟩ : ∃ w', v.alloc (.cells #[.int .i64 x] 2) = w' := ⟨_, rfl⟩
          rw [hv0] at hS1 HAB hlt0
          rw [hv0, hb11] at hcell0
          rw [hb11] at hlt0
          rw [hv0]
          try rw [hb11]
          clear hv0 hb11
          refine anyK_all (n := 2) (rs := [4]) (by kernel_rfl) (by simp) (fun i hi => ?_)
          simp only [List.mem_cons, List.not_mem_nil, or_false] at hi
          obtain rfl := hi
          refine wpOp_step rfl (fun K' hK => ?_)
          go_simp
          refine (cloneR_any (HBG.out.bel (bthen HB.out HAB.out)) (by omega)).mono ?_
          rintro e v1 ⟨a2, c2, rfl, hg⟩
          have HOW := Lib.hid hg.1
          have HG1 := Lib.hid hg.2
          have HBA := Lib.hid (bthen HAB.out hg.2)
          have HSZ := Lib.hid hg.2.size
          have hcell : v1.cell? ⟨b11, 0, none⟩ = some (.int .i64 x) := (hg.2.cell (p := ⟨b11, 0, none⟩) hlt0).trans hcell0
          replace hS := HSA.out _ (bthen HB.out HBA.out)
          refine hK _ _ ⟨fun _ _ => trivial, hS, ?_⟩
          clear hK hg hS1 hcell0 hlt0
          refine anyK_all (n := 1) (rs := [7]) (by kernel_rfl) (by simp) (fun i hi => ?_)
          simp only [List.mem_cons, List.not_mem_nil, or_false] at hi
          obtain rfl := hi
          refine wpOp_step rfl (fun K' hK => ?_)
          refine step_ap1 rfl (.tmp 59) (.tmp 61) 24 rfl v0.heap.size 2 (.int .i64 0) 8 Try.underlying24 Try.infoI rfl (.slice a2 k c2) k _ rfl HOW.out b11 (.int .i64 x) rfl hcell rfl (by omega) (by omega) HSZ.out ?_
          intro v' w6 hown hgrow _
          obtain ⟨a6, c6, rfl⟩ := own_form hown
          obtain ⟨g6, hg6⟩ : ∃ g6, a6 = some ⟨g6, 0, none⟩ := by
            obtain ⟨g6, c7, e⟩ := own_first hown (by omega)
            injection e with e1 _ _
            exact ⟨g6, e1⟩
          subst hg6
          have hg6b := (hown.lt g6 rfl).1
          have HB6 := Lib.hid (show Below wr.heap.size wr w6 from bthen HB.out (bthen HAB.out (below_grown HG1.out HOW.out hgrow HSZ.out)))
          have HI6 := Lib.hid (show IsInts w6 (some ⟨g6, 0, none⟩) (k + 1) (b ++ [x]) from IsInts.of_own (by rw [List.map_append]; exact hown))
          have hgx : g6 ≠ bx := by have := HLT.out; have := HB.out.size; have := HAB.out.size; omega
          replace hS := HSA.out _ HB6.out
          refine hK _ _ ⟨fun _ _ => trivial, hS, ?_⟩
          clear hK hown hgrow
          have HCA := Lib.hid (HIH.out (b ++ [x]) o2 (some ⟨g6, 0, none⟩) (k + 1) c6 w6 (by have := HB6.out.size; have := HBW.out; omega) HLEN.out (HPI.out.sl.all HB6.out) HPI.out.ok HPI.out.sq ⟨HI6.out.1, Or.inr ⟨g6, 0, rfl, HI6.out, hgx⟩⟩ HSQ.out)
          rw [HSX.out, HNX.out, HP2.out] at HCA
          refine anyK_all (n := 0) (rs := [18]) (by kernel_rfl) (by simp) (fun i hi => ?_)
          simp only [List.mem_cons, List.not_mem_nil, or_false] at hi
          obtain rfl := hi
          refine wpOp_step rfl (fun K' hK => ?_)
          go_simp
          refine HCA.out.mono ?_
          rintro e w7 ⟨rfl, o3, hkn, hseen⟩
          have HPI2 := Lib.hid (show WvK w1 w7 B bx D a m bd o o3 from ⟨hkn.sl, HPI.out.gx.trans ((Gx.below HB6.out).trans hkn.gx), hkn.ok, hkn.sq, leO_trans IsWv.hl HKOK.out HPI.out.ok hkn.ok hkn.le HPI.out.le⟩)
          have HSN2 := Lib.hid (show ∀ y : Int, -bd ≤ y → y < x + 1 → seenO (IsWv a m D) BB o3 (b ++ [y]) from fun y hy hyx => by
            by_cases h : y = x
            · rw [h]; exact hseen
            · exact seenO.mono IsWv.hl HPI.out.ok hkn.ok hkn.le (HSN.out y hy (by omega)))
          refine hK _ _ ⟨(fun h => absurd rfl h), HB0.out.gx HPI2.out.gx hbne, ?_⟩
          clear hK hkn hseen hS
          obtain ⟨z0, z1, z2⟩ := HB0.out.gx HPI2.out.gx hbne
          refine ⟨by kernel_rfl, ?_⟩
          go_wp2_with fail
          go_roundw
          case rel => exact ⟨x + 1, o3, by go_num, by omega, by omega, HPI2, HSN2⟩
          case measure => simp [intOf] <;> omega
      · have HSN2 := Lib.hid (show ∀ y : Int, -bd ≤ y → y < x + 1 → seenO (IsWv a m D) BB o2 (b ++ [y]) from fun y hy hyx => by
          by_cases h : y = x
          · subst h
            exact seenO.far (by rw [HSX.out]; have := HBB2.out.1.1; have := HQ0.out; omega)
          · exact HSN.out y hy (by omega))
        go_wp2_with fail
        go_roundw
        case rel => exact ⟨x + 1, o2, by go_num, by omega, by omega, HPI, HSN2⟩
        case measure => simp [intOf] <;> omega
    · have HE := Lib.hid (HEND.out o2 (fun y h1 h2 => HSN.out y h1 (by omega)))
      go_wp2_with fail
      go_end0
      exact ⟨rfl, o2, ⟨HPI.out.sl, HGA.out.trans HPI.out.gx, HPI.out.ok, HPI.out.sq, HPI.out.le⟩, HE.out⟩
end Go.Proofs.Ytpineiocjaajnaa

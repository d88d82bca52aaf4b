import Derived.Test.YthjndfbjalkckaaDoorGuM
import Derived.Test.YthjndfbjalkckaaDoorGuG
import Derived.Test.YthjndfbjalkckaaDoorGuB
/- The law FnGuessed. Condition: the tables and the two errors are laid. -/
namespace Go.Proofs.YthjndfbjalkckaaDoor
open Go.RowKit
set_option linter.unusedVariables false

/-- What stands while the law runs: the congruence and the outputs. -/
structure GuK (w0 w : World) (B : Nat) (m a c : Int) (al : Option Addr) (n : Nat) (L : List Int) : Prop where
  r : R3 w B m a c
  i : IsInts w al n L
  b : Below w0.heap.size w0 w
theorem GuK.step {w0 w w' : World} {B : Nat} {m a c : Int} {al : Option Addr} {n : Nat} {L : List Int} (h : GuK w0 w B m a c al n L) (hb : Below w.heap.size w w') : GuK w0 w' B m a c al n L :=
  ⟨h.r.all hb, h.i.below hb, bthen h.b hb⟩
theorem RetN.form {w w' : World} {o : Option (List Int)} {e : Ending} (h : RetN w o e w') : ∃ (a : Option Addr) (l cp : Nat), e = .returned (.tuple #[.slice a l cp, .bool o.isSome]) ∧ Below w.heap.size w w' ∧ ∀ zs, o = Option.some zs → l = zs.length ∧ IsInts w' a l zs ∧ l ≤ 64 := by
  cases o with
  | none => exact ⟨_, _, _, h.1, h.2, fun zs h => by cases h⟩
  | some zs =>
    obtain ⟨a, c, he, hx, hb, hl⟩ := h
    exact ⟨a, zs.length, c, he, hb, fun ys hy => (by cases hy; exact ⟨rfl, hx, hl⟩)⟩
theorem tmod_low {T m : Int} (hm : 0 < m) (h : T.tmod m < 0) : T.tmod m + m = T % m := by
  have h1 := Int.tmod_eq_emod (a := T) (b := m)
  have h2 := Int.emod_nonneg T (show m ≠ 0 by omega)
  split at h1 <;> omega
theorem tmod_high {T m : Int} (hm : 0 < m) (h : ¬ T.tmod m < 0) : T.tmod m = T % m := by
  have h1 := Int.tmod_eq_emod (a := T) (b := m)
  have h2 := Int.emod_lt_of_pos T hm
  split at h1 <;> omega
theorem jnB_size3 {m a c : Int} (hm : m.natAbs < 10 ^ 19) (ha : a.natAbs < 10 ^ 19) (hc : c.natAbs < 10 ^ 19) : (jnB [itB m, itB a, itB c] { data := #[44] }).size ≤ 1048576 := by
  have e : (jnB [itB m, itB a, itB c] { data := #[44] }).data.toList = Lib.itoa m ++ 44 :: (Lib.itoa a ++ 44 :: Lib.itoa c) := by
    unfold jnB
    simp [Lib.join, itB]
  have h1 := itB_size hm
  have h2 := itB_size ha
  have h3 := itB_size hc
  have k1 := size_list (itB m)
  have k2 := size_list (itB a)
  have k3 := size_list (itB c)
  have k0 := size_list (jnB [itB m, itB a, itB c] { data := #[44] })
  rw [e] at k0
  have q1 : (itB m).data.toList = Lib.itoa m := rfl
  have q2 : (itB a).data.toList = Lib.itoa a := rfl
  have q3 : (itB c).data.toList = Lib.itoa c := rfl
  rw [q1] at k1
  rw [q2] at k2
  rw [q3] at k3
  simp only [List.length_append, List.length_cons] at k0
  omega
/-- What one factor makes. -/
theorem made {m : Int} {n : Nat} {o : List Int} {f : Int} (h : GdO m n o) (hf : fitB m o f = true) : stR m f (adV m f o) (o.getD 0 0) (n - 1) = o.drop 1 := by
  apply List.ext_getElem?
  intro j
  have h1 := h.len
  have h4 := h.n4
  by_cases hj : j < n - 1
  · have hm := fit_makes (by have := h.m2; omega) hf (fun j _ => h.bd j) (j + 1) (by omega)
    have e1 : (stR m f (adV m f o) (o.getD 0 0) (n - 1))[j]? = some (stN m f (adV m f o) (o.getD 0 0) (j + 1)) := by simp [stR, hj]
    rw [e1, hm.1, List.getElem?_drop, Nat.add_comm 1 j, List.getD, List.getElem?_eq_getElem (by omega : j + 1 < o.length)]
    rfl
  · rw [List.getElem?_eq_none (by rw [stR_len]; omega), List.getElem?_eq_none (by simp; omega)]
theorem IsInts.tail {w : World} {b off n : Nat} {zs : List Int} (h : IsInts w (some ⟨b, off, none⟩) n zs) (hn : 1 ≤ n) : IsInts w (some ⟨b, off + 1, none⟩) (n - 1) (zs.drop 1) := by
  refine ⟨by rw [List.length_drop, h.length], fun j hj => ⟨b, off + 1, rfl, ?_⟩⟩
  obtain ⟨b', off', e, hc⟩ := h.2 (j + 1) (by omega)
  simp only [Option.some.injEq, Addr.mk.injEq] at e
  obtain ⟨rfl, rfl, _⟩ := e
  rw [show off + 1 + j = off + (j + 1) by omega, hc]
  simp [List.getD]
/-- A list and a yes. -/
def RetS (w : World) (n : Nat) (zs : List Int) (e : Ending) (w' : World) : Prop := ∃ a c, e = .returned (.tuple #[.slice a n c, .bool true]) ∧ IsInts w' a n zs ∧ Below w.heap.size w w'
theorem IsInts.cell {w : World} {b off n j : Nat} {zs : List Int} (h : IsInts w (some ⟨b, off, none⟩) n zs) (hj : j < n) : w.cell? ⟨b, off + j, none⟩ = some (.int .i64 (zs.getD j 0)) := by
  obtain ⟨b', off', e, hc⟩ := h.2 j hj
  simp only [Option.some.injEq, Addr.mk.injEq] at e
  obtain ⟨rfl, rfl, _⟩ := e
  exact hc
set_option maxRecDepth 100000 in
set_option maxHeartbeats 12800000 in
theorem fnGuessed_walk (a a' : Option Addr) (len cap len' cap' : Nat) (bs bs' : List Int) (w : World) (hx : IsU8s w a len bs) (hx' : IsU8s w a' len' bs') (hg : GlobE w) :
    Calls Tryd.prog 4 #[.slice a len cap, .slice a' len' cap'] w fun e w' => e = .returned (.bool true) ∧ Below w.heap.size w w' := by
  cases hlong : (decide (1048576 < len) || decide (1048576 < len')) with
  | true =>
    have HLong := Lib.hid hlong
    clear hx hx' hg hlong
    go_enter Tryd.func4, Tryd.ntmps4
    go_wp2_with fail
    refine (b10Long_any _ _ _ _ _ _ _).mono ?_
    rintro e w' ⟨rfl, rfl⟩
    rw [HLong.out]
    go_wp2_with fail
    go_ret
    exact ⟨rfl, Below.refl _ _⟩
  | false =>
    have HLong := Lib.hid hlong
    have hlen : len < 1000000000 := by simp at hlong; omega
    have HX := Lib.hid hx
    have HX' := Lib.hid hx'
    have HGl := Lib.hid hg
    have hy := atY_bd len' bs'
    obtain ⟨n, hn⟩ : ∃ n : Nat, 4 + atY len' bs' = (n : Int) := ⟨(4 + atY len' bs').toNat, by omega⟩
    have hn4 : 4 ≤ n := by omega
    have hn7 : n ≤ 7 := by omega
    have HAT := Lib.hid (fun w hx => b10At04_any a' len' cap' bs' w hx)
    obtain ⟨y, hyy⟩ : ∃ y, atY len' bs' = y := ⟨_, rfl⟩
    rw [hyy] at HAT hn
    have hwn : IntKind.i64.wrap (4 + y) = (n : Int) := by rw [hn]; exact IntWalk.i64_in _ (by omega)
    have HBC := Lib.hid (b10Cong_any a len cap bs w hx hlen)
    clear hx hx' hg hlong hy hyy hn
    go_enter Tryd.func4, Tryd.ntmps4
    go_wp2_with fail
    refine (b10Long_any _ _ _ _ _ _ _).mono ?_
    rintro e w' ⟨rfl, rfl⟩
    rw [HLong.out]
    go_wp2_with fail
    refine HBC.out.mono ?_
    rintro e w1 ⟨m, f, c, x, rfl, hgd, hb⟩
    have HGD := Lib.hid hgd
    have hbd := hgd.bd
    have hm2 : 2 ≤ m := hbd.1.1
    have hm5 : m ≤ 100000 := hbd.1.2
    have hf0 : 0 ≤ f := hbd.2.1.1
    have hf1 : f ≤ m - 1 := hbd.2.1.2
    have HR0 := Lib.hid (And.intro (R3.new w1 23 m f c) (hb.alloc hb.size (.cells #[.int .i64 m, .int .i64 f, .int .i64 c] 23 (0, 0))))
    clear hb hgd hbd HBC
    go_upto_region 4 with fail
    obtain ⟨wA, hwA⟩ : ∃ w', w1.alloc (.cells #[.int .i64 m, .int .i64 f, .int .i64 c] 23 (0, 0)) = w' := ⟨_, rfl⟩
    obtain ⟨B, hB⟩ : ∃ b, w1.heap.size = b := ⟨_, rfl⟩
    rw [hwA, hB] at HR0
    rw [hwA]
    try rw [hB]
    clear hwA hB
    obtain ⟨q0, q1, q2, g0, g1, g2, hlt⟩ := HR0.out.1
    have HXA := Lib.hid (HX'.out.below HR0.out.2)
    have HST := Lib.hid (fun w => specStates_any m f c x n w HGD.out (by omega))
    obtain ⟨L, hL⟩ : ∃ L, stR m f c x n = L := ⟨_, rfl⟩
    have HGO := Lib.hid (show GdO m n L by rw [← hL]; exact GdO.of_st HGD.out hn4 (by omega))
    have HLL := Lib.hid hL
    rw [hL] at HST
    clear hL
    go_cut [7, 8] from 34 to 42 (fun v7 v8 wc => ∃ (al : Option Addr) (cl : Nat), v7 = .slice al n cl ∧ v8 = .bool true ∧ Hid (GuK w wc B m f c al n L ∧ n ≤ cl))
    case first =>
      go_region_with (first
        | (go_at_call 11; refine (HAT.out _ (by first | exact HXA.out | exact HXA.out.below (drewN_below _ _))).mono ?_; rintro e w2 ⟨rfl, rfl⟩)
        | (go_at_call 10; refine (HST.out _).mono ?_; rintro e w2 ⟨al, cl, rfl, hi, hb, hcap⟩; have HI := Lib.hid (And.intro hi (And.intro (show Below wA.heap.size wA w2 from bthen (Below.refl _ wA).drew hb) hcap)); clear hi hb hcap))
      all_goals
        go_wp2_with fail
        go_meet
        exact ⟨al, cl, rfl, rfl, Lib.hid ⟨⟨HR0.out.1.all HI.out.2.1, HI.out.1, bthen HR0.out.2 HI.out.2.1⟩, HI.out.2.2⟩⟩
    case rest =>
    obtain ⟨al, cl, rfl, rfl, HK0⟩ := hcut
    clear q0 q1 q2 g0 g1 g2 hlt HR0 HXA HST HAT hwn
    have HK := Lib.hid HK0.out.1
    have hcap := HK0.out.2
    clear HK0
    obtain ⟨o, ho⟩ : ∃ o, fcO m L = o := ⟨_, rfl⟩
    have HOO := Lib.hid ho
    have H1 := Lib.hid (fun w hx => factorsI_any m al n cl L w HGO.out hx)
    have H2 := Lib.hid (fun w hx => specFactors_any m al n cl L w HGO.out hx)
    rw [ho] at H1 H2
    clear ho
    obtain ⟨G, hG⟩ : ∃ G, gkL L (n - 3) = G := ⟨_, rfl⟩
    have H3 := Lib.hid (fun w hx => modulusI_any m al n cl L w HGO.out hx)
    have H4 := Lib.hid (fun w hx => specModulus_any m al n cl L w HGO.out hx)
    have hmf : mfV L (n - 3) = .tuple #[.int .i64 (G : Nat), .bool (G != 0)] := by unfold mfV; rw [hG]
    rw [hmf] at H3 H4
    have hdv : m.natAbs ∣ G := by rw [← hG, ← HLL.out]; exact gk_own (by omega)
    have hrem : (G : Int) % m = 0 := Int.emod_eq_zero_of_dvd (by rw [← Int.natAbs_dvd]; exact Int.natCast_dvd_natCast.2 hdv)
    have hrem2 : (G : Int).tmod m = 0 := by rw [Int.tmod_eq_emod_of_nonneg (by omega)]; exact hrem
    have hG0 : (0 : Int) ≤ (G : Int) := by omega
    clear hmf hG hdv
    have hm0 : ¬ m = 0 := by omega
    have hm1 : ¬ m = -1 := by omega
    -- both lists of factors
    obtain ⟨q0, q1, q2, g0, g1, g2, hlt⟩ := HK.out.r
    go_wp2_with fail
    refine (H1.out _ HK.out.i).mono ?_
    intro e w3 h
    obtain ⟨a9, l9, c9, rfl, hb, hz⟩ := h.form
    have HK1 := Lib.hid (HK.out.step hb)
    have HZ := Lib.hid hz
    have HZB := Lib.hid (show ∀ (w' : World) zs, Below w3.heap.size w3 w' → o = some zs → IsInts w' a9 l9 zs from fun w' zs hb h => (hz zs h).2.1.below hb)
    clear h hb hz H1 HK q0 q1 q2 g0 g1 g2 hlt
    obtain ⟨q0, q1, q2, g0, g1, g2, hlt⟩ := HK1.out.r
    go_wp2_with fail
    refine (H2.out _ HK1.out.i).mono ?_
    intro e w4 h
    obtain ⟨a11, l11, c11, rfl, hb, _⟩ := h.form
    have HK2 := Lib.hid (HK1.out.step hb)
    have HB4 := Lib.hid hb
    clear h hb H2 HK1 q0 q1 q2 g0 g1 g2 hlt
    obtain ⟨ok, hok⟩ : ∃ ok, o.isSome = ok := ⟨_, rfl⟩
    have HOK := Lib.hid hok
    rw [hok]
    clear hok
    go_wp2_with fail
    refine (H3.out _ HK2.out.i).mono ?_
    rintro e w5 ⟨rfl, hb⟩
    have HK3 := Lib.hid (HK2.out.step hb)
    have HB5 := Lib.hid (bthen HB4.out hb)
    clear hb H3 HK2 HB4
    go_wp2_with fail
    refine (H4.out _ HK3.out.i).mono ?_
    rintro e w6 ⟨rfl, hb⟩
    have HK4 := Lib.hid (HK3.out.step hb)
    have HB6 := Lib.hid (bthen HB5.out hb)
    clear hb H4 HK3 HB5
    obtain ⟨q0, q1, q2, g0, g1, g2, hlt⟩ := HK4.out.r
    have hoo : (ok != ok) = false := by simp
    go_upto_region 9 with fail
    go_cut [14, 16, 57, 59, 61, 62, 64, 66, 88] from 67 to 88 (fun v14 v16 v57 v59 v61 v62 v64 v66 v88 wc => v88 = .bool false ∧ wc = w6)
    case first =>
      obtain ⟨gb, hgb⟩ : ∃ gb, (G != 0) = gb := ⟨_, rfl⟩
      cases gb with
      | false =>
        have hgg : ((false : Bool) != false) = false := rfl
        rw [hgb]
        go_wp2_with fail
        go_meet
        exact ⟨rfl, rfl⟩
      | true =>
        rw [hgb]
        go_wp2_with fail
        go_meet
        exact ⟨rfl, rfl⟩
    case rest =>
    obtain ⟨rfl, rfl⟩ := hcut
    clear hoo
    have HGL6 := Lib.hid (HGl.out.below HK4.out.b)
    have HCT := Lib.hid (fun w ht => cgText_any m f c w ht)
    have hcv : cgV m f c = .tuple #[.string (jnB [itB m, itB f, itB c] { data := #[44] }), .bool true] := if_pos HGD.out.1
    rw [hcv] at HCT
    have HSZ := Lib.hid (jnB_size3 (m := m) (a := f) (c := c) (by omega) (by omega) (by have := HGD.out.bd; omega))
    have HRC := Lib.hid (fun w h => readCg_any (jnB [itB m, itB f, itB c] { data := #[44] }) w HSZ.out h)
    have hrv := rcV_join HGD.out.1
    rw [hrv] at HRC
    obtain ⟨s, hs⟩ : ∃ s, jnB [itB m, itB f, itB c] { data := #[44] } = s := ⟨_, rfl⟩
    rw [hs] at HCT HRC
    clear hcv hrv hs HSZ
    go_wp2_with fail
    refine (HCT.out _ HGL6.out.tab).mono ?_
    rintro e w7 ⟨rfl, hb⟩
    have HK5 := Lib.hid (HK4.out.step hb)
    have HB7 := Lib.hid (bthen HB6.out hb)
    have HGL7 := Lib.hid (HGl.out.below HK5.out.b)
    clear hb HK4 HB6 HCT HGL6 q0 q1 q2 g0 g1 g2 hlt
    go_wp2_with fail
    refine (HRC.out _ HGL7.out).mono ?_
    rintro e w8 ⟨rfl, hb⟩
    have HB8 := Lib.hid (show Below w8.heap.size w8 (w8.alloc (.cells #[.int .i64 m, .int .i64 f, .int .i64 c] 23 (0, 0))) from (Below.refl _ w8).alloc (Nat.le_refl _) _)
    have HR8 := Lib.hid (R3.new w8 23 m f c)
    have HK6 := Lib.hid ((HK5.out.step hb).step HB8.out)
    have HB9 := Lib.hid (bthen (bthen HB7.out hb) HB8.out)
    clear hb HK5 HB7 HB8 HRC HGL7
    unfold cgA
    go_upto_region 13 with fail
    obtain ⟨w9, hw9⟩ : ∃ w', w8.alloc (.cells #[.int .i64 m, .int .i64 f, .int .i64 c] 23 (0, 0)) = w' := ⟨_, rfl⟩
    obtain ⟨B8, hB8⟩ : ∃ b, w8.heap.size = b := ⟨_, rfl⟩
    rw [hw9, hB8] at HR8
    rw [hw9] at HK6 HB9 ⊢
    try rw [hB8]
    clear hw9 hB8
    obtain ⟨q0, q1, q2, g0, g1, g2, hlt⟩ := HK6.out.r
    obtain ⟨p0, p1, p2, p3, p4, p5, p6⟩ := HR8.out
    cases ok with
    | false =>
      go_wp2_with fail
      go_ret
      exact ⟨rfl, HK6.out.b⟩
    | true =>
    obtain ⟨fs, hfs⟩ : ∃ fs, o = some fs := by
      cases o with
      | none => exact absurd HOK.out (by simp)
      | some fs => exact ⟨fs, rfl⟩
    have HF9 := Lib.hid (HZB.out w9 fs HB9.out hfs)
    have hl9 := (HZ.out fs hfs).1
    have hl64 := (HZ.out fs hfs).2.2
    have HFC := Lib.hid (show fs = fcK m L m.toNat by
      have h1 := HOO.out
      rw [hfs] at h1
      unfold fcO at h1
      split at h1
      · injection h1 with h2; exact h2.symm
      · cases h1)
    clear HZ HZB hfs HOO HOK
    subst hl9
    have hin : decide (f ∈ fs) = true := decide_eq_true (by
      rw [HFC.out]
      exact fcK_has hf0 (by omega) (by rw [← HLL.out]; exact fit_own))
    have HHas := Lib.hid (fun w hx => b10Has_any a9 fs.length c9 fs f w hx (by omega))
    rw [hin] at HHas
    clear hin
    go_wp2_with fail
    refine (HHas.out _ HF9.out).mono ?_
    rintro e w10 ⟨rfl, rfl⟩
    clear HHas p0 p1 p2 p3 p4 p5 p6 HR8 q0 q1 q2 g0 g1 g2 hlt
    go_wp2_with fail
    go_loopw [21] (fun i wr => ∃ k : Nat, k ≤ fs.length ∧ i = .int .i64 (k : Nat) ∧ Hid (GuK w wr B m f c al n L ∧ IsInts wr a9 fs.length fs)) (fun i _ => fs.length - (intOf i).toNat)
    case atStart => exact ⟨0, Nat.zero_le _, rfl, Lib.hid ⟨HK6.out, HF9.out⟩⟩
    case round =>
      clear HK6 HF9 HB9
      obtain ⟨k, hk, rfl, HW⟩ := hrel
      by_cases hkl : k < fs.length
      · have hki : (k : Int) < (fs.length : Int) := by omega
        have hk0 : (0 : Int) ≤ (k : Int) := by omega
        obtain ⟨b, off, rfl, d0⟩ := HW.out.1.i.at (show 0 < n by omega)
        obtain ⟨b', off', e1, d1⟩ := HW.out.1.i.at (show 1 < n by omega)
        simp only [Option.some.injEq, Addr.mk.injEq] at e1
        obtain ⟨rfl, rfl, _⟩ := e1
        obtain ⟨b9, off9, rfl, d9⟩ := HW.out.2.at hkl
        rw [Nat.add_zero] at d0
        obtain ⟨q0, q1, q2, g0, g1, g2, hlt⟩ := HW.out.1.r
        have hmem : fs.getD k 0 ∈ fcK m L m.toNat := by
          rw [← HFC.out, List.getD, List.getElem?_eq_getElem hkl]
          exact List.getElem_mem hkl
        have hf := fcK_mem hmem
        have hbx0 := HGO.out.bd 0
        have hbx1 := HGO.out.bd 1
        obtain ⟨D, hD⟩ : ∃ D, adV m (fs.getD k 0) L = D := ⟨_, rfl⟩
        have hmk := made HGO.out hf.2.2
        obtain ⟨k3, hk3⟩ : ∃ k3, n - 1 = k3 := ⟨_, rfl⟩
        rw [hD, hk3] at hmk
        have hDe : (L.getD 1 0 - fs.getD k 0 * L.getD 0 0) % m = D := hD
        obtain ⟨φ, hφ⟩ : ∃ x, fs.getD k 0 = x := ⟨_, rfl⟩
        obtain ⟨x0, hx0⟩ : ∃ x, L.getD 0 0 = x := ⟨_, rfl⟩
        obtain ⟨x1, hx1⟩ : ∃ x, L.getD 1 0 = x := ⟨_, rfl⟩
        have HPH := Lib.hid hφ
        have HX0 := Lib.hid hx0
        rw [hφ] at d9 hf hmk hDe
        rw [hx0] at d0 hbx0 hmk hDe
        rw [hx1] at d1 hbx1 hDe
        have hD0 : 0 ≤ D ∧ D < m := by rw [← hDe]; exact ⟨Int.emod_nonneg _ (by omega), Int.emod_lt_of_pos _ (by omega)⟩
        have hgc : GdC m φ D x0 := ⟨by simp only [cgOk, inR, Bool.and_eq_true, decide_eq_true_eq]; omega, hbx0⟩
        have HSI := Lib.hid (show ∀ w, Calls Tryd.prog 18 #[.agg #[.int .i64 m, .int .i64 φ, .int .i64 D], .int .i64 x0, .int .i64 (k3 : Nat)] w (RetS w k3 (L.drop 1)) from fun w => (statesI_any m φ D x0 k3 w hgc (by omega)).mono fun e w' h => by
          obtain ⟨ao, co, he, hi, hb, _⟩ := h
          rw [hmk] at he hi
          have hl : (L.drop 1).length = k3 := by rw [List.length_drop, HGO.out.len]; exact hk3
          rw [hl] at he hi
          exact ⟨ao, co, he, hi, hb⟩)
        have hpb := fac_bd (m := m) (f := φ) (x := x0) hm5 hf.1 (by omega) (by omega)
        obtain ⟨p, hp⟩ : ∃ p, φ * x0 = p := ⟨_, rfl⟩
        rw [hp] at hpb hDe
        have hw1 : IntKind.i64.wrap (φ * x0) = p := by rw [hp]; exact IntWalk.i64_in _ (by omega)
        obtain ⟨T, hT⟩ : ∃ T, x1 - p = T := ⟨_, rfl⟩
        rw [hT] at hDe
        have hw2 : IntKind.i64.wrap (x1 - p) = T := by rw [hT]; exact IntWalk.i64_in _ (by omega)
        have hwn1 : IntKind.i64.wrap ((n : Int) - 1) = (k3 : Int) := by rw [show (n : Int) - 1 = (k3 : Int) by omega]; exact IntWalk.i64_in _ (by omega)
        have h1n : (1 : Int) ≤ (n : Int) := by omega
        have h1n0 : (0 : Int) < (n : Int) := by omega
        have h1n1 : (1 : Int) < (n : Int) := by omega
        have hncl : (n : Int) ≤ (cl : Int) := by omega
        have hlow : T.tmod m < 0 → T.tmod m + m = D := fun h => by rw [← hDe]; exact tmod_low (by omega) h
        have hhigh : ¬ T.tmod m < 0 → T.tmod m = D := fun h => by rw [← hDe]; exact tmod_high (by omega) h
        have hrb : -100000 ≤ T.tmod m ∧ T.tmod m ≤ 100000 := by
          by_cases h : T.tmod m < 0
          · have := hlow h; omega
          · have := hhigh h; omega
        obtain ⟨r, hr⟩ : ∃ r, T.tmod m = r := ⟨_, rfl⟩
        rw [hr] at hlow hhigh hrb
        clear hmem hf hbx1 hD hmk hDe hφ hx0 hx1 hgc hpb hp hT
        go_wp2_with fail
        go_quiet (fail)
        go_upto_if 139 with fail
        have HB12 := Lib.hid (drewN_below wr nq)
        obtain ⟨w12, hw12⟩ : ∃ w', wr.drewN nq = w' := ⟨_, rfl⟩
        rw [hw12] at HB12 ⊢
        have HW12 := Lib.hid (show GuK w w12 B m f c (some ⟨b, off, none⟩) n L ∧ IsInts w12 (some ⟨b9, off9, none⟩) fs.length fs from ⟨HW.out.1.step HB12.out, HW.out.2.below HB12.out⟩)
        clear hw12 HB12 HW d0 d1 d9 q0 q1 q2 g0 g1 g2 hlt
        obtain ⟨q0, q1, q2, g0, g1, g2, hlt⟩ := HW12.out.1.r
        go_cut [22, 139] from 140 to 143 (fun v22 v139 wc => v22 = .int .i64 D ∧ wc = w12)
        case first =>
          by_cases hrn : r < 0
          · have hwr : IntKind.i64.wrap (r + m) = D := by rw [hlow hrn]; exact IntWalk.i64_in _ (by omega)
            clear hlow hhigh hrb
            go_wp2_with fail
            go_meet
            exact ⟨rfl, rfl⟩
          · have HRD := Lib.hid (hhigh (by omega))
            clear hlow hhigh hrb
            go_wp2_with fail
            go_meet
            exact ⟨by rw [HRD.out], rfl⟩
        case rest =>
        obtain ⟨rfl, hwc⟩ := hcut
        rw [hwc]
        clear hwc hlow hhigh hrb hr
        try clear wc
        go_upto_region 25 with fail
        have d9 := HW12.out.2.cell hkl
        rw [HPH.out] at d9
        have hbl := World.block_lt_of_cell? _ _ d9
        have hb9n : ¬ b9 = w12.heap.size := by simp only at hbl; omega
        have hBn : ¬ B = w12.heap.size := by omega
        go_region
        go_upto_region 26 with fail
        have HB13 := Lib.hid (show Below w12.heap.size w12 (w12.alloc (.cells #[.int .i64 m, .int .i64 φ, .int .i64 D] 23 (0, 0))).drew from ((Below.refl _ w12).alloc (Nat.le_refl _) _).drew)
        have HN13 := Lib.hid (show R3 (w12.alloc (.cells #[.int .i64 m, .int .i64 φ, .int .i64 D] 23 (0, 0))).drew w12.heap.size m φ D from (R3.new w12 23 m φ D).all (Below.refl _ _).drew)
        obtain ⟨w13, hw13⟩ : ∃ w', (w12.alloc (.cells #[.int .i64 m, .int .i64 φ, .int .i64 D] 23 (0, 0))).drew = w' := ⟨_, rfl⟩
        obtain ⟨B13, hB13⟩ : ∃ x, w12.heap.size = x := ⟨_, rfl⟩
        rw [hw13] at HB13 HN13 ⊢
        have HW13 := Lib.hid (show GuK w w13 B m f c (some ⟨b, off, none⟩) n L ∧ IsInts w13 (some ⟨b9, off9, none⟩) fs.length fs from ⟨HW12.out.1.step HB13.out, HW12.out.2.below HB13.out⟩)
        rw [hB13] at HN13
        try rw [hB13]
        clear hw13 hB13 HB13 HW12 hbl hb9n hBn d9 q0 q1 q2 g0 g1 g2 hlt
        obtain ⟨q0, q1, q2, g0, g1, g2, hlt⟩ := HN13.out
        have d0 := HW13.out.1.i.cell (show 0 < n by omega)
        rw [HX0.out, Nat.add_zero] at d0
        go_cut [24, 25] from 152 to 162 (fun v24 v25 wc => ∃ (ao : Option Addr) (co : Nat), v24 = .slice ao k3 co ∧ v25 = .bool true ∧ Hid (IsInts wc ao k3 (L.drop 1) ∧ GuK w wc B m f c (some ⟨b, off, none⟩) n L ∧ IsInts wc (some ⟨b9, off9, none⟩) fs.length fs))
        case first =>
          go_region_with (first | (go_at_call 18; refine (HSI.out _).mono ?_; rintro e w14 ⟨ao, co, rfl, hi, hb⟩; have HI := Lib.hid (And.intro hi (show Below w13.heap.size w13 w14 from bthen (Below.refl _ w13).drew hb)); clear hi hb))
          all_goals
            go_wp2_with fail
            go_meet
            exact ⟨ao, co, rfl, rfl, Lib.hid ⟨HI.out.1, HW13.out.1.step HI.out.2, HW13.out.2.below HI.out.2⟩⟩
        case rest =>
        obtain ⟨ao, co, rfl, rfl, HI⟩ := hcut
        clear q0 q1 q2 g0 g1 g2 hlt d0 HW13 HN13
        have HT := Lib.hid (show IsInts wc (some ⟨b, off + 1, none⟩) k3 (L.drop 1) from by
          have := HI.out.2.1.i.tail (by omega)
          rw [hk3] at this
          exact this)
        go_wp2_with fail
        try rw [hk3]
        refine (b10Nums_same ao (some ⟨b, off + 1, none⟩) k3 co _ (L.drop 1) _ HI.out.1 HT.out (by omega)).mono ?_
        rintro e w15 ⟨rfl, hb⟩
        have HW15 := Lib.hid (show GuK w w15 B m f c (some ⟨b, off, none⟩) n L ∧ IsInts w15 (some ⟨b9, off9, none⟩) fs.length fs from ⟨HI.out.2.1.step hb, HI.out.2.2.below hb⟩)
        clear hb HI HT
        go_wp2_with fail
        go_roundw
        case rel => exact ⟨k + 1, by omega, by go_num, HW15⟩
        case measure => simp [intOf]; omega
      · obtain rfl : k = fs.length := by omega
        have hki : ¬ (fs.length : Int) < (fs.length : Int) := by omega
        go_wp2_with fail
        go_ret
        exact ⟨rfl, HW.out.1.b⟩
end Go.Proofs.YthjndfbjalkckaaDoor

import Derived.Test.YthjndfbjalkckaaDoorGuS
/- The congruence that the law on guessed congruences draws. Condition: the bytes drawn from are few. -/
namespace Go.Proofs.YthjndfbjalkckaaDoor
open Go.RowKit
set_option linter.unusedVariables false

/-- A congruence and a state of it are drawn. -/
def RetBc (w : World) (e : Ending) (w' : World) : Prop := ∃ m f c x, e = .returned (.tuple #[.agg #[.int .i64 m, .int .i64 f, .int .i64 c], .int .i64 x]) ∧ GdC m f c x ∧ Below w.heap.size w w'
set_option maxRecDepth 20000 in
set_option maxHeartbeats 3200000 in
theorem b10Cong_any (a : Option Addr) (len cap : Nat) (zs : List Int) (w : World) (hx : IsU8s w a len zs) (hl : len < 1000000000) :
    Calls Tryd.prog 9 #[.slice a len cap] w (RetBc w) := by
  have HO := Lib.hid (show OwnAt w (w.alloc (.cells #[.int .i64 0, .int .i64 0, .int .i64 0] 23 (0, 0))) [(w.heap.size, triO 23 0 0 0)] from (OwnAt.start w).new rfl)
  have HX := Lib.hid hx
  clear hx
  go_enter Tryd.func9, Tryd.ntmps9
  go_wp2_with fail
  obtain ⟨wA, hwA⟩ : ∃ w', w.alloc (.cells #[.int .i64 0, .int .i64 0, .int .i64 0] 23 (0, 0)) = w' := ⟨_, rfl⟩
  rw [hwA] at HO ⊢
  obtain ⟨b0, hb0⟩ : ∃ b, w.heap.size = b := ⟨_, rfl⟩
  rw [hb0] at HO ⊢
  clear hwA hb0
  refine (srcFrom_any a len cap wA).mono ?_
  rintro e w1 ⟨rfl, rfl⟩
  have HO1 := Lib.hid (show OwnAt w (wA.alloc (.cells #[.slice a len cap, .int .i64 0, .int .u64 0] 65)) [(wA.heap.size, srcO a len cap 0), (b0, triO 23 0 0 0)] from HO.out.new (srcO_new a len cap))
  obtain ⟨w1, hw1⟩ : ∃ w', wA.alloc (.cells #[.slice a len cap, .int .i64 0, .int .u64 0] 65) = w' := ⟨_, rfl⟩
  obtain ⟨B, hB⟩ : ∃ b, wA.heap.size = b := ⟨_, rfl⟩
  rw [hw1, hB] at HO1
  rw [hw1, hB]
  clear hw1 hB HO
  go_wp2_with fail
  refine (drawOk_any B b0 a len cap 0 zs w w1 HO1.out HX.out (by omega) hl).mono ?_
  rintro e w2 ⟨m, f, c, t, rfl, hok, ht, h2⟩
  have HO2 := Lib.hid h2
  have HK := Lib.hid hok
  have hbd := cg_bd hok
  have hm1 := hbd.1.1
  have hm2 := hbd.1.2
  clear h2 HO1 hok hbd
  have HO3 := Lib.hid (show OwnAt w (w2.alloc (.cells #[.int .i64 m, .int .i64 f, .int .i64 c] 23 (0, 0))) [(w2.heap.size, triO 23 m f c), (B, srcO a len cap t), (b0, triO 23 0 0 0)] from HO2.out.new rfl)
  go_upto_region 3 with fail
  obtain ⟨w3, hw3⟩ : ∃ w', w2.alloc (.cells #[.int .i64 m, .int .i64 f, .int .i64 c] 23 (0, 0)) = w' := ⟨_, rfl⟩
  obtain ⟨b5, hb5⟩ : ∃ b, w2.heap.size = b := ⟨_, rfl⟩
  rw [hw3, hb5] at HO3
  rw [hw3]
  try rw [hb5]
  clear hw3 hb5 HO2
  obtain ⟨q0, q1, q2, g0, g1, g2, hlt⟩ := HO3.out.tri 0 rfl
  obtain ⟨r0, r1, r2, k0, k1, k2, hlr⟩ := HO3.out.tri 2 rfl
  have HS := Lib.hid (show ∀ (w9 : World) t', OwnAt w w9 [(b5, triO 23 m f c), (B, srcO a len cap t'), (b0, triO 23 0 0 0)] → OwnAt w (((w9.setCell ⟨b0, 0, none⟩ (.int .i64 m)).setCell ⟨b0, 1, none⟩ (.int .i64 f)).setCell ⟨b0, 2, none⟩ (.int .i64 c)) [(b5, triO 23 m f c), (B, srcO a len cap t'), (b0, triO 23 m f c)] from fun w9 t' h9 => by
    have k1 := h9.triSet 2 (j := 0) (v := m) (m' := m) (a' := 0) (c' := 0) rfl rfl
    have k2 := k1.triSet 2 (j := 1) (v := f) (m' := m) (a' := f) (c' := 0) rfl rfl
    exact k2.triSet 2 (j := 2) (v := c) (m' := m) (a' := f) (c' := c) rfl rfl)
  go_region_with (first | (go_at_call 25; refine (srcPick_any 1 m B a len cap t zs w _ _ (by first | exact HO3.out | exact HO3.out.drewN 1 | exact HS.out _ _ HO3.out | exact (HS.out _ _ (HO3.out.drewN 1))) rfl HX.out (by omega) hl (by omega)).mono ?_; rintro e w4 ⟨x, t4, rfl, x0, x1, _, _, h4⟩; have HO4 := Lib.hid h4; clear h4; obtain ⟨n0, n1, n2, n3, n4, n5, n6⟩ := HO4.out.tri 0 rfl; obtain ⟨p0, p1, p2, p3, p4, p5, p6⟩ := HO4.out.tri 2 rfl))
  all_goals
    have HO5 := Lib.hid (HS.out w4 t4 HO4.out)
    obtain ⟨wF, hwF⟩ : ∃ w', ((w4.setCell ⟨b0, 0, none⟩ (.int .i64 m)).setCell ⟨b0, 1, none⟩ (.int .i64 f)).setCell ⟨b0, 2, none⟩ (.int .i64 c) = w' := ⟨_, rfl⟩
    rw [hwF] at HO5 ⊢
    clear hwF n0 n1 n2 n3 n4 n5 n6 p0 p1 p2 p3 p4 p5 p6 q0 q1 q2 g0 g1 g2 hlt r0 r1 r2 k0 k1 k2 hlr HO4 HO3 HS
    obtain ⟨p0, p1, p2, p3, p4, p5, p6⟩ := HO5.out.tri 2 rfl
    have hxm : x < m := by omega
    go_wp2_with fail
    refine bodyPost_ret (v := .tuple #[.agg #[.int .i64 m, .int .i64 f, .int .i64 c], .int .i64 x]) (by simp [results, Tryd.results9, go_sem, *]) rfl ?_
    exact ⟨m, f, c, x, rfl, ⟨HK.out, x0, hxm⟩, HO5.out.2⟩
end Go.Proofs.YthjndfbjalkckaaDoor

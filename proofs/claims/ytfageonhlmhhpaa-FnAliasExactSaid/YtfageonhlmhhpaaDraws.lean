import Derived.Test.YtfageonhlmhhpaaSrc
import Derived.Test.YtfageonhlmhhpaaLists
import Derived.Test.YtfageonhlmhhpaaWts
import Derived.Deep.LoopGhost
/- What the laws draw: numbers, weights; sums of lists. -/
namespace Go.Proofs.Ytfageonhlmhhpaa
open Go.RowKit
set_option linter.unusedVariables false

theorem r8Long_any (a a' : Option Addr) (len cap len' cap' : Nat) (w : World) :
    Calls Try.prog 12 #[.slice a len cap, .slice a' len' cap'] w fun e w' => e = .returned (.bool (decide (48 < len) || decide (48 < len'))) ∧ w = w' := by
  by_cases h1 : 48 < len
  · have k1 : (48:Int) < (len:Int) := by omega
    go_enter Try.func12, Try.ntmps12
    go_wp2
    go_ret
    exact ⟨by simp [h1], rfl⟩
  · have k1 : ¬ (48:Int) < (len:Int) := by omega
    by_cases h2 : 48 < len'
    · have k2 : (48:Int) < (len':Int) := by omega
      go_enter Try.func12, Try.ntmps12
      go_wp2
      go_ret
      exact ⟨by simp [h2], rfl⟩
    · have k2 : ¬ (48:Int) < (len':Int) := by omega
      go_enter Try.func12, Try.ntmps12
      go_wp2
      go_ret
      exact ⟨by simp [h1, h2], rfl⟩
theorem r8Sum_any (a : Option Addr) (len cap : Nat) (zs : List Int) (w : World) (hb : len < 4611686018427387904) (hx : IsInts w a len zs) :
    Calls Try.prog 15 #[.slice a len cap] w fun e w' => e = .returned (.int .i64 (sumL zs)) ∧ w = w' := by
  go_enter Try.func15, Try.ntmps15
  go_wp2
  go_loop [3, 4] (fun t i => ∃ k : Nat, k ≤ len ∧ i = .int .i64 k ∧ t = .int .i64 (sumL (zs.take k))) (fun _ i => len - (intOf i).toNat)
  case atStart => exact ⟨0, Nat.zero_le _, rfl, rfl⟩
  case round =>
    obtain ⟨k, hk, rfl, rfl⟩ := hrel
    by_cases hlt : k < len
    · obtain ⟨b, off, ha, h1⟩ := hx.at hlt
      subst ha
      have hk0 : (0:Int) ≤ (k:Int) := by omega
      have hkl : (k:Int) < (len:Int) := by omega
      go_wp2
      go_round
      case rel => exact ⟨k + 1, by omega, by go_num, by rw [sumL_step zs k (by have := hx.1; omega)]; simp [List.getD]⟩
      case measure => simp [intOf]; omega
    · go_wp2
      go_ret
      have : k = zs.length := by have := hx.1; omega
      subst this
      exact ⟨by simp, rfl⟩
theorem r8At_any (a : Option Addr) (len cap : Nat) (zs : List Int) (k : Nat) (n : Int) (w : World) (hx : IsU8s w a len zs) :
    Calls Try.prog 16 #[.slice a len cap, .int .i64 (k : Nat), .int .i64 n] w fun e w' => ∃ x, e = .returned (.int .i64 x) ∧ 0 ≤ x ∧ (x < n ∨ x = 0) ∧ w = w' := by
  by_cases h1 : n ≤ 1
  · go_enter Try.func16, Try.ntmps16
    go_wp2
    go_ret
    exact ⟨0, rfl, by omega, Or.inr rfl, rfl⟩
  · by_cases h2 : k < len
    · obtain ⟨b, off, ha, hc⟩ := hx.at h2
      subst ha
      have hbd := hx.bd k
      obtain ⟨x, hxe⟩ : ∃ x, zs.getD k 0 = x := ⟨_, rfl⟩
      rw [hxe] at hc hbd
      clear hx hxe
      have Hr := Lib.hid (show 0 ≤ x % n ∧ x % n < n from ⟨Int.emod_nonneg _ (by omega), Int.emod_lt_of_pos _ (by omega)⟩)
      have k0 : (0:Int) ≤ (k:Int) := by omega
      have k1 : (k:Int) < (len:Int) := by omega
      have n0 : ¬ n = 0 := by omega
      have n1 : ¬ n = -1 := by omega
      go_enter Try.func16, Try.ntmps16
      go_wp2
      go_ret
      exact ⟨_, rfl, Hr.out.1, Or.inl Hr.out.2, rfl⟩
    · have k1 : ¬ (k:Int) < (len:Int) := by omega
      go_enter Try.func16, Try.ntmps16
      go_wp2
      go_ret
      exact ⟨0, rfl, by omega, Or.inr rfl, rfl⟩
def wOk (zs : List Int) : Prop := 1 ≤ zs.length ∧ zs.length ≤ 6 ∧ (∀ z ∈ zs, 0 ≤ z ∧ z ≤ 15) ∧ 1 ≤ zs.sum
theorem wOk_push {zs : List Int} (h : wOk zs) (hl : zs.length < 6) {x : Int} (h0 : 0 ≤ x) (h1 : x ≤ 15) : wOk (zs ++ [x]) := by
  obtain ⟨a, b, c, d⟩ := h
  refine ⟨by simp, by simp; omega, fun z hz => ?_, by simp; omega⟩
  rcases List.mem_append.1 hz with hz | hz
  · exact c z hz
  · simp at hz; subst hz; omega

set_option maxHeartbeats 800000 in
theorem r8Weights_any (a : Option Addr) (len cap : Nat) (bs : List Int) (w : World) (hx : IsU8s w a len bs) (hl : len < 1000000000) :
    Calls Try.prog 13 #[.slice a len cap] w fun e w' => ∃ zs g c, e = .returned (.slice (some ⟨g, 0, none⟩) zs.length c) ∧ wOk zs ∧ OwnAt w w' [(g, rowO 2 c (zs.map (Value.int .i64)))] := by
  go_enter Try.func13, Try.ntmps13
  go_wp2_with fail
  refine (srcFrom_any a len cap w).mono ?_
  rintro e w1 ⟨rfl, hw1⟩
  have h1 : OwnAt w w1 [(w.heap.size, srcO a len cap 0)] := by rw [hw1]; exact (OwnAt.start w).new (srcO_new a len cap)
  generalize w.heap.size = B at h1
  have H1 := Lib.hid h1
  clear h1 hw1
  go_wp2_with fail
  refine (srcPick_any 0 9 B a len cap 0 bs w w1 _ H1.out rfl hx (by omega) hl (by omega)).mono ?_
  rintro e w2 ⟨x, t2, rfl, hx0, hx1, ht0, ht1, h2⟩
  have H2 := Lib.hid h2
  clear h2
  have hx9 : x < 9 := by omega
  have hw : wOk [1 + x] := ⟨by simp, by simp, by simp; omega, by simp; omega⟩
  go_wp2_with fail
  have h3 := H2.out.new (o := .cells #[.int .i64 (1 + x)] 2) (φ := rowO 2 1 ([1 + x].map (Value.int .i64))) ⟨_, rfl, by simp, by simp, by simp [maxLen], by simp⟩
  obtain ⟨zs, hzs⟩ : ∃ zs, [1 + x] = zs := ⟨_, rfl⟩
  have hzl : zs.length = 1 := by rw [← hzs]; rfl
  rw [hzs] at h3 hw
  have H3 := Lib.hid h3
  have Hw := Lib.hid (And.intro hw hzl)
  clear h3 hw hzs hzl
  refine (srcPick_any 1 6 B a len cap t2 bs w _ _ H3.out rfl hx (by omega) hl (by omega)).mono ?_
  rintro e w4 ⟨y, t4, rfl, hy0, hy1, hy2, hy3, h4⟩
  have H4 := Lib.hid h4
  clear h4
  have hy6 : y < 6 := by omega
  obtain ⟨n, rfl⟩ := Int.eq_ofNat_of_zero_le hy0
  go_wp2
  go_loopg [4, 5] n (fun g v4 v5 wr => ∃ zs gs cs t, v4 = .slice (some ⟨gs, 0, none⟩) zs.length cs ∧ v5 = .int .i64 (g : Nat) ∧ zs.length + g ≤ 6 ∧ wOk zs ∧ t + 2 * g ≤ 100 ∧ OwnAt w wr [(gs, rowO 2 cs (zs.map (Value.int .i64))), (B, srcO a len cap t)])
  case atStart =>
    refine ⟨zs, _, 1, t4, by rw [Hw.out.2], rfl, by rw [Hw.out.2]; omega, Hw.out.1, by omega, H4.out⟩
  case round =>
    obtain ⟨zs, gs, cs, t, rfl, rfl, hlen, hw, ht, hO⟩ := hrel
    have HO := Lib.hid hO
    have Hw := Lib.hid hw
    clear hO hw
    by_cases h0 : 0 < gk
    · have k0 : (0:Int) < (gk:Int) := by omega
      go_wp2_with fail
      refine (srcPick_any 1 15 B a len cap t bs w wr _ HO.out rfl hx (by omega) hl (by omega)).mono ?_
      rintro e w5 ⟨z, t5, rfl, hz0, hz1, hz2, hz3, h5⟩
      have hz15 : z ≤ 15 := by omega
      have H5 := Lib.hid h5
      have hB := h5.2.size
      have hrow : (w5.alloc (.cells #[.int .i64 z] 2)).ownsRow w.heap.size 2 1 (.slice (some ⟨gs, 0, none⟩) zs.length cs) zs.length (zs.map (Value.int .i64)) := by
        have := ((h5.1.alloc (.cells #[.int .i64 z] 2)).rowAt 0 rfl).1
        rwa [List.length_map] at this
      have Hrow := Lib.hid hrow
      clear h5 hrow
      go_wp2_with (at_builtin; refine wpList_ap1 rfl (.tmp 18) (.tmp 21) 22 rfl w.heap.size 2 (.int .i64 0) 8 Try.underlying22 Try.infoI rfl _ zs.length _ rfl Hrow.out w5.heap.size (.int .i64 z) rfl (by go_simp) rfl (by omega) (by omega) (by simp only [alloc_size]; omega) ?_)
      intro v' w6 hown hgrow hat
      obtain ⟨gs2, cs2, rfl, O2⟩ := (H5.out.1.alloc (.cells #[.int .i64 z] 2)).ap 0 rfl hown hgrow (by rw [alloc_size]; exact hat)
      have hb6 : Below w.heap.size w w6 := (H5.out.2.alloc hB _).grown hgrow (by simp only [alloc_size]; omega) (fun j hj => by
        have := (H5.out.1.lt (List.mem_of_getElem? (i := 0) rfl)).1
        simp [Value.ownBlock] at hj; simp at this; omega)
      have HO2 := Lib.hid O2
      have Hb6 := Lib.hid hb6
      clear hown hgrow hat O2 hb6
      go_wp2
      go_roundg (gk - 1)
      case measure => omega
      case rel =>
        refine ⟨zs ++ [z], gs2, cs2, t5, by rw [List.length_append]; rfl, by go_num, by simp; omega, wOk_push Hw.out (by omega) hz0 hz15, by omega, ?_, Hb6.out⟩
        have := HO2.out
        simpa using this
    · have hg0 : gk = 0 := by omega
      subst hg0
      go_wp2
      go_ret
      exact ⟨zs, gs, cs, rfl, Hw.out, HO.out.1.sub (by exact .cons_cons _ (.cons _ .slnil)), HO.out.2⟩
end Go.Proofs.Ytfageonhlmhhpaa

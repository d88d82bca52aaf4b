import Derived.Test.YtddmglgogjaajaaLawO
/- The law of counts among all: the reference's. Conditions: few counts, all of them at most 10 to the power of 18. -/
namespace Go.Proofs.Ytddmglgogjaajaa
open Go.RowKit
set_option linter.unusedVariables false

theorem LO.storeV {w wA : World} {b : Nat} {K : List (Nat × Obj)} {V C V' C' : Value} {nv nc : Nat} {vs fs : List Int} (h : LO w wA b K V C V' C' nv nc vs fs) : LO w (wA.setCell ⟨b, 0, none⟩ V') b K V' C V' C' nv nc vs fs := by
  have hg := grownBy_setCell wA ⟨b, 0, none⟩ V'
  have h1 := heap_setCell_same wA b 0 #[V, C] 39 V' h.box
  refine ⟨h1, fun x hx => ?_, h.val.kept hg ?_, h.cha.kept hg ?_, h.dis, h.bel.setCell (p := ⟨b, 0, none⟩) h.hb _, h.nv, h.nc, h.hb⟩
  · obtain ⟨k1, k2, k3, k4⟩ := h.keep x hx
    exact ⟨(hg.block _ (lt_of_heap k1) (fun e => k4 (Option.some.inj e))).trans k1, k2, k3, k4⟩
  · cases hv : V'.ownBlock with
    | none => exact Or.inl rfl
    | some k => exact Or.inr (by rw [← hv]; exact h.nv)
  · cases hv : C'.ownBlock with
    | none => exact Or.inl rfl
    | some k => exact Or.inr (by rw [← hv]; exact h.nc)
theorem LO.storeC {w wA : World} {b : Nat} {K : List (Nat × Obj)} {V C V' C' : Value} {nv nc : Nat} {vs fs : List Int} (h : LO w wA b K V C V' C' nv nc vs fs) : LO w (wA.setCell ⟨b, 1, none⟩ C') b K V C' V' C' nv nc vs fs := by
  have hg := grownBy_setCell wA ⟨b, 1, none⟩ C'
  have h1 := heap_setCell_same wA b 1 #[V, C] 39 C' h.box
  refine ⟨h1, fun x hx => ?_, h.val.kept hg ?_, h.cha.kept hg ?_, h.dis, h.bel.setCell (p := ⟨b, 1, none⟩) h.hb _, h.nv, h.nc, h.hb⟩
  · obtain ⟨k1, k2, k3, k4⟩ := h.keep x hx
    exact ⟨(hg.block _ (lt_of_heap k1) (fun e => k4 (Option.some.inj e))).trans k1, k2, k3, k4⟩
  · cases hv : V'.ownBlock with
    | none => exact Or.inl rfl
    | some k => exact Or.inr (by rw [← hv]; exact h.nv)
  · cases hv : C'.ownBlock with
    | none => exact Or.inl rfl
    | some k => exact Or.inr (by rw [← hv]; exact h.nc)
set_option maxRecDepth 100000 in
set_option maxHeartbeats 3200000 in
theorem l05Counted_any (a : Option Addr) (len cap : Nat) (cs : List Int) (all : Nat) (w : World) (hx : IsInts w a len cs) (hl : len ≤ 1000) (ha : 0 < all) (ha2 : all ≤ 1000000000000000000) (hc : ∀ i, i < len → cs.getD i 0 ≤ 1000000000000000000) :
    Calls Try.prog 70 #[.slice a len cap, .int .i64 (all : Nat)] w (RetLw w (lvT 0 cs len) (lfT cs all len)) := by
  have HX := Lib.hid (And.intro hx hc)
  have H0 := Lib.hid (lo_start w)
  clear hx hc
  go_enter Try.func70, Try.ntmps70
  go_wp2
  obtain ⟨b, hb⟩ : ∃ b, w.heap.size + 1 = b := ⟨_, rfl⟩
  obtain ⟨r, hr⟩ : ∃ r, w.heap.size = r := ⟨_, rfl⟩
  rw [hb, hr] at H0 ⊢
  have HB := Lib.hid (And.intro hb hr)
  clear hb hr
  go_loopw [6] (fun i wr => ∃ (m n : Nat) (V C : Value), m ≤ len ∧ n ≤ m ∧ i = .int .i64 (m : Nat) ∧ Hid (n = (lvT 0 cs m).length ∧ LO w wr b [(r, .cells #[.slice none 0 0, .slice none 0 0] 39)] V C V C n n (lvT 0 cs m) (lfT cs all m))) (fun i _ => len - (intOf i).toNat)
  case atStart => exact ⟨0, 0, _, _, Nat.zero_le _, Nat.le_refl _, rfl, Lib.hid ⟨rfl, H0.out⟩⟩
  case round =>
    clear H0
    obtain ⟨m, n, V, C, hm, hnm, rfl, HL⟩ := hrel
    obtain ⟨av, cv, rfl⟩ := own_shape HL.out.2.val
    obtain ⟨ac, cc, rfl⟩ := own_shape HL.out.2.cha
    by_cases hlt : m < len
    · obtain ⟨b1, off, rfl, hcm⟩ := (HX.out.1.below HL.out.2.bel).at hlt
      have hm0 : (0:Int) ≤ (m:Int) := by omega
      have hmi : (m:Int) < (len:Int) := by omega
      have hc2 := HX.out.2 m hlt
      obtain ⟨c, hcz⟩ : ∃ c, cs.getD m 0 = c := ⟨_, rfl⟩
      rw [hcz] at hcm hc2
      by_cases hc0 : 0 < c
      · have hv1 : lvT 0 cs (m + 1) = lvT 0 cs m ++ [(m : Int)] := by rw [lvT, hcz, if_pos hc0, Int.zero_add]
        have hf1 : lfT cs all (m + 1) = lfT cs all m ++ [(mkRat c all).num, ((mkRat c all).den : Nat)] := by rw [lfT, hcz, if_pos hc0]
        have HQ := Lib.hid (fun (w : World) => l01FMake_any c all w (by omega) (by omega) (by omega) ha)
        obtain ⟨p, hp⟩ : ∃ p, (mkRat c all).num = p := ⟨_, rfl⟩
        obtain ⟨q, hq⟩ : ∃ q : Int, (((mkRat c all).den : Nat) : Int) = q := ⟨_, rfl⟩
        rw [hp, hq] at hf1 HQ
        have HN := Lib.hid (And.intro hv1 hf1)
        have HC := Lib.hid hcz
        clear hv1 hf1 hp hq hcz
        obtain ⟨q1, q2, q3, q4⟩ := HL.out.2.cells
        have HLA := Lib.hid (HL.out.2.below ((Below.refl _ wr).alloc (Nat.le_refl _) (.cells #[.int .i64 (m : Nat)] 2)))
        obtain ⟨k1, k2, k3, k4⟩ := HLA.out.cells
        go_wp2_with (at_builtin; refine wpList_ap1 rfl (.tmp 20) (.tmp 22) 30 rfl w.heap.size 2 (.int .i64 0) 8 Try.underlying30 Try.infoI rfl _ n _ rfl HLA.out.val wr.heap.size (.int .i64 (m : Nat)) rfl (by go_simp) rfl (by omega) (by omega) HLA.out.bel.size ?_)
        intro v6 w6 hown hgrow hat
        obtain ⟨av6, cv6, rfl⟩ := own_shape hown
        have L1 := HLA.out.pushV hown hgrow (by rw [alloc_size]; exact hat)
        have HL1 := Lib.hid L1.storeV
        obtain ⟨s1, s2, s3, s4⟩ := L1.cells
        clear hown hgrow hat L1 q1 q2 q3 q4 k1 k2 k3 k4 hcm
        go_wp2_with fail
        obtain ⟨w8, hw8⟩ : ∃ w', w6.setCell ⟨b, 0, none⟩ (.slice av6 (n + 1) cv6) = w' := ⟨_, rfl⟩
        rw [hw8] at HL1 ⊢
        have HNm := Lib.hid HL.out.1
        clear hw8 HL HLA s1 s2 s3 s4
        obtain ⟨q1, q2, q3, q4⟩ := HL1.out.cells
        have hcm := (HX.out.1.below HL1.out.bel).at hlt
        obtain ⟨b2, off2, e1, hcm⟩ := hcm
        simp only [Option.some.injEq, Addr.mk.injEq] at e1
        obtain ⟨rfl, rfl, _⟩ := e1
        rw [HC.out] at hcm
        go_region_law (first
          | (go_simp; go_at_call 49; refine (HQ.out _).mono ?_; rintro e w9 ⟨rfl, hb9⟩; obtain ⟨s1, s2, s3, s4⟩ := (HL1.out.below (bthen (drewN_below _ 1) hb9)).cells; have sa : ∀ o, (w9.alloc o).cell? ⟨b, 1, none⟩ = some (.slice ac n cc) := fun o => ((HL1.out.below (bthen (drewN_below _ 1) hb9)).below ((Below.refl _ _).alloc (Nat.le_refl _) o)).cells.2.1)
          | (refine step_ap2 rfl (.tmp 26) (.tmp 33) 37 rfl w.heap.size 24 (.agg #[.int .i64 0, .int .i64 0]) 16 Try.underlying37 Try.infoFr rfl _ n _ rfl ((HL1.out.below (bthen (drewN_below _ 1) hb9)).below ((Below.refl _ w9).alloc (Nat.le_refl _) (.cells #[.int .i64 p, .int .i64 q] 24))).cha _ (.int .i64 p) (.int .i64 q) rfl (by go_simp) (by go_simp) rfl rfl (by omega) (by omega) ((HL1.out.below (bthen (drewN_below _ 1) hb9)).below ((Below.refl _ w9).alloc (Nat.le_refl _) (.cells #[.int .i64 p, .int .i64 q] 24))).bel.size ?_; intro c6 w7 hown2 hgrow2 hat2; obtain ⟨ac6, cc6, rfl⟩ := own_shape hown2; have L2 := ((HL1.out.below (bthen (drewN_below _ 1) hb9)).below ((Below.refl _ w9).alloc (Nat.le_refl _) (.cells #[.int .i64 p, .int .i64 q] 24))).pushC hown2 hgrow2 hat2; obtain ⟨t1, t2, t3, t4⟩ := L2.cells))
        all_goals
          have HL3 := Lib.hid L2.storeC
          clear L2 hown2 hgrow2 hat2 hb9 s1 s2 s3 s4 sa t1 t2 t3 t4 q1 q2 q3 q4 hcm
          go_wp2
          go_roundw
          case rel => exact ⟨m + 1, n + 1, _, _, by omega, by omega, by go_num, Lib.hid ⟨by rw [HN.out.1, List.length_append, ← HNm.out]; rfl, by rw [HN.out.1, HN.out.2]; exact HL3.out⟩⟩
          case measure => simp [intOf]; omega
      · have hv1 : lvT 0 cs (m + 1) = lvT 0 cs m := by rw [lvT, hcz, if_neg hc0]
        have hf1 : lfT cs all (m + 1) = lfT cs all m := by rw [lfT, hcz, if_neg hc0]
        have HN := Lib.hid (And.intro hv1 hf1)
        clear hv1 hf1 hcz
        go_wp2
        go_roundw
        case rel => exact ⟨m + 1, n, _, _, by omega, by omega, by go_num, Lib.hid (by rw [HN.out.1, HN.out.2]; exact HL.out)⟩
        case measure => simp [intOf]; omega
    · obtain rfl : m = len := by omega
      obtain ⟨q1, q2, q3, q4⟩ := HL.out.2.cells
      obtain ⟨r1, r2, r3, r4⟩ := pair_cells (HL.out.2.keep _ List.mem_cons_self).1
      have HG := Lib.hid (HL.out.2.give (by rw [← HB.out.2]; exact Nat.le_refl _) HL.out.1 HL.out.1)
      clear HL
      go_wp2_with fail
      refine bodyPost_ret (v := .agg #[.slice av n cv, .slice ac n cc]) (by simp [results, Try.results70, go_sem, *]) rfl ⟨_, _, rfl, HG.out.1, HG.out.2⟩
end Go.Proofs.Ytddmglgogjaajaa

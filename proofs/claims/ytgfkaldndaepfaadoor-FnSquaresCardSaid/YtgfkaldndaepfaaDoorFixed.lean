import Derived.Test.YtgfkaldndaepfaaDoorShiftsS
/- The shifts that are fixed: the program's walk, the reference's, and the law FnExactFixedShifts. Condition: the text is shorter than the model's greatest length. -/
namespace Go.Proofs.YtgfkaldndaepfaaDoor
open Go.RowKit
set_option linter.unusedVariables false

def fxP (s : ByteArray) (m : Nat) : List Int := ((List.range m).filter fun a => ((shL s).getD a 0).natAbs == s.size).map fun a => ((a : Nat) : Int)
def fxL (s : ByteArray) : List Int := fxP s s.size
theorem fxP_step (s : ByteArray) (m : Nat) : fxP s (m + 1) = fxP s m ++ (if ((shL s).getD m 0).natAbs == s.size then [((m : Nat) : Int)] else []) := by
  unfold fxP
  rw [List.range_succ, List.filter_append, List.map_append]
  congr 1
  cases h : (((shL s).getD m 0).natAbs == s.size) <;> simp only [List.filter_cons, List.filter_nil, h, if_true, Bool.false_eq_true, if_false, List.map_cons, List.map_nil]
theorem fxP_len (s : ByteArray) (m : Nat) : (fxP s m).length ≤ m := by
  unfold fxP
  rw [List.length_map]
  have := List.length_filter_le (fun a => ((shL s).getD a 0).natAbs == s.size) (List.range m)
  simpa using this
theorem shL_bound (s : ByteArray) (a : Nat) (hsz : s.size ≤ 64) : -64 ≤ (shL s).getD a 0 ∧ (shL s).getD a 0 ≤ 64 := by
  by_cases h : a < s.size
  · rw [shL_at h]
    have := isum_le (h := fun x => sgF s x * sgF s (x ^^^ a)) (fun x => sg_mul (bitF s) x (x ^^^ a)) s.size
    unfold shf
    omega
  · simp [List.getD, List.getElem?_eq_none (show (shL s).length ≤ a by rw [shL_len]; omega)]
theorem GrowAt.rebase {w w1 wr : World} {E : TypeId} {v : Value} {n : Nat} {xs : List Value} (hb : Below w.heap.size w w1) (h : GrowAt w1 wr E v n xs) : GrowAt w wr E v n xs := ⟨own_mono h.1 hb.size, bthen hb h.2⟩
theorem dis_ap {w : World} {B T sz n : Nat} {xs : List Value} {vL v v' : Value} (h : w.ownsRow B T sz vL n xs) (hd : Dis vL v) (hat : v'.ownBlock = v.ownBlock ∨ v'.ownBlock = some w.heap.size) : Dis vL v' := by
  unfold Dis at *
  rcases hat with e | e
  · rw [e]; exact hd
  · cases hL : vL.ownBlock with
    | none => exact Or.inl rfl
    | some g =>
      right
      rw [e]
      intro he
      simp only [Option.some.injEq] at he
      have := (h.lt g hL).2
      omega
theorem sizeT_any (n : Int) (w : World) (h0 : -64 ≤ n) (h1 : n ≤ 64) : Calls Tryd.prog 23 #[.int .i64 n] w fun e w' => e = .returned (.int .i64 (n.natAbs : Nat)) ∧ w = w' := by
  have hm : max n (-n) = (n.natAbs : Nat) := by omega
  go_enter Tryd.func23, Tryd.ntmps23
  go_wp2
  go_ret
  exact ⟨rfl, rfl⟩
theorem retSl_of {w wr : World} {v : Value} {n : Nat} {zs : List Int} (h : GrowAt w wr 2 v n (zs.map (Value.int .i64))) : ∃ a c, v = .slice a zs.length c ∧ Lists wr w.heap.size [⟨a, zs.length, c, zs⟩] ∧ Below w.heap.size w wr := by
  obtain ⟨a, c, rfl⟩ := own_form h.1
  have hl : zs.length = n := by simpa using h.1.1
  subst hl
  exact ⟨a, c, rfl, Lists.one h.1, h.2⟩
/-- What both loops hold: what has been taken, and the list of shifts beside it. -/
def FxI (s : ByteArray) (w wr : World) (a : Option Addr) (c : Nat) (v : Value) (xs : List Int) : Prop :=
  GrowAt w wr 2 v xs.length (xs.map (Value.int .i64)) ∧ wr.ownsRow w.heap.size 2 1 (.slice a s.size c) s.size ((shL s).map (Value.int .i64)) ∧ Dis (.slice a s.size c) v
theorem FxI.reads {s : ByteArray} {w wr : World} {a : Option Addr} {c : Nat} {v : Value} {xs : List Int} (h : FxI s w wr a c v xs) : IsInts wr a s.size (shL s) := IsInts.of_own h.2.1
theorem FxI.drewN {s : ByteArray} {w wr : World} {a : Option Addr} {c : Nat} {v : Value} {xs : List Int} (h : FxI s w wr a c v xs) (q : Nat) : FxI s w (wr.drewN q) a c v xs := ⟨h.1.drewN q, h.2.1, h.2.2⟩
theorem FxI.push {s : ByteArray} {w wr w6 : World} {a : Option Addr} {c : Nat} {v v' : Value} {xs : List Int} {z : Int} {o : Obj} (h : FxI s w wr a c v xs) (hown : w6.ownsRow w.heap.size 2 1 v' (xs.length + 1) (xs.map (Value.int .i64) ++ [.int .i64 z])) (hg : (wr.alloc o).grownBy w6 v.ownBlock) (hat : v'.ownBlock = v.ownBlock ∨ v'.ownBlock = some (wr.heap.size + 1)) : FxI s w w6 a c v' (xs ++ [z]) := by
  have h1 := own_i64 (h.1.alloc o) hown hg
  refine ⟨by rw [List.length_append]; exact h1, own_grown (h.2.1.alloc o) hg h.2.2, dis_ap (h.2.1.alloc o) h.2.2 (by rw [alloc_size]; exact hat)⟩
set_option maxRecDepth 20000 in
set_option maxHeartbeats 1600000 in
theorem fixedShifts_any (s : ByteArray) (w : World) (hs : s.size ≤ maxLen) : Calls Tryd.prog 9 #[.string s] w (RetSl w (isT s) (tabL s (fxL s))) := by
  cases ht : isT s with
  | false =>
    rw [show tabL s (fxL s) = [] by unfold tabL; rw [ht]; rfl]
    have HT := Lib.hid ht
    clear ht
    go_enter Tryd.func9, Tryd.ntmps9
    go_wp2_with fail
    refine (isTable_any s _ hs).mono ?_
    rintro e w1 ⟨rfl, hb1⟩
    rw [HT.out]
    go_wp2_with fail
    go_ret2
    exact retSl_no hb1
  | true =>
    rw [show tabL s (fxL s) = fxL s by unfold tabL; rw [ht]; rfl]
    obtain ⟨k, hi, hk, hsz, hB⟩ := isT_iff ht
    have hs64 : s.size ≤ 64 := by have := pow_le_64 k hk; omega
    have HT := Lib.hid (And.intro ht (And.intro hsz hB))
    clear ht hi hsz hB
    go_enter Tryd.func9, Tryd.ntmps9
    go_wp2_with fail
    refine (isTable_any s _ hs).mono ?_
    rintro e w1 ⟨rfl, hb1⟩
    rw [HT.out.1]
    have Hb1 := Lib.hid hb1
    have HG := Lib.hid (GrowAt.rebase hb1 (GrowAt.start w1 2))
    clear hb1
    go_wp2_with fail
    refine (shifts_any s k _ hk HT.out.2.1 HT.out.2.2).mono ?_
    rintro e w2 ⟨a, c, rfl, hown, hb2⟩
    rw [shL_len] at hown ⊢
    have hF : FxI s w w2 a c (.slice (some ⟨w1.heap.size, 0, none⟩) 0 0) [] := ⟨HG.out.ret hb2, own_mono hown HG.out.2.size, dis_symm (dis_new HG.out.1 hown (Nat.le_refl _))⟩
    have HF := Lib.hid hF
    clear hown hb2 hF
    go_wp2
    go_loopw [14, 4] (fun i v wr => ∃ (m : Nat) (xs : List Int), m ≤ s.size ∧ i = .int .i64 (m : Nat) ∧ xs.length ≤ m ∧ Hid (xs = fxP s m) ∧ Hid (FxI s w wr a c v xs)) (fun i _ _ => s.size - (intOf i).toNat)
    case atStart => exact ⟨0, [], Nat.zero_le _, rfl, by simp, Lib.hid rfl, HF⟩
    case round =>
      clear HF HG
      obtain ⟨m, xs, hm, rfl, hxl, HX, HF⟩ := hrel
      by_cases hlt : m < s.size
      · obtain ⟨b, off, ha, hc⟩ := HF.out.reads.at hlt
        subst ha
        have hm0 : (0:Int) ≤ (m:Int) := by omega
        have hmi : (m:Int) < (s.size:Int) := by omega
        obtain ⟨hz1, hz2⟩ := shL_bound s m hs64
        have hst := fxP_step s m
        obtain ⟨z, hz⟩ : ∃ z, (shL s).getD m 0 = z := ⟨_, rfl⟩
        rw [hz] at hc hz1 hz2 hst
        have HS := Lib.hid hst
        clear hst hz
        by_cases hzn : z.natAbs = s.size
        · have HS2 := Lib.hid (show fxP s (m + 1) = xs ++ [((m : Nat) : Int)] by rw [HS.out, HX.out, if_pos (by simpa using hzn)])
          have HA := Lib.hid (HF.out.1.alloc (.cells #[.int .i64 (m : Nat)] 2))
          have he1 : ((z.natAbs : Int) == (s.size : Int)) = true := by rw [beq_iff_eq]; omega
          have he2 : (z.natAbs == s.size) = true := by rw [beq_iff_eq]; exact hzn
          obtain ⟨ab, hab⟩ : ∃ ab, z.natAbs = ab := ⟨_, rfl⟩
          have HC := Lib.hid (fun w => sizeT_any z w hz1 hz2)
          rw [hab] at HC he1 he2
          obtain ⟨ln, hln⟩ : ∃ ln, xs.length = ln := ⟨_, rfl⟩
          rw [hln] at HA hxl
          have HLn := Lib.hid hln
          clear hab hzn hln
          go_wp2_with fail
          refine (HC.out _).mono ?_
          rintro e w' ⟨rfl, rfl⟩
          go_wp2_with (at_builtin; refine wpList_ap1 rfl (.tmp 24) (.tmp 26) 25 rfl w.heap.size 2 (.int .i64 0) 8 Tryd.underlying25 Tryd.infoI rfl _ ln _ rfl HA.out.1 wr.heap.size (.int .i64 (m : Nat)) rfl (by go_simp) rfl (by omega) (by omega) HA.out.2.size ?_)
          intro v' w6 hown hgrow hat
          rw [← HLn.out] at hown
          have HF2 := Lib.hid (HF.out.push hown hgrow hat)
          clear hown hgrow hat
          go_wp2
          go_roundw
          case rel => exact ⟨m + 1, xs ++ [((m : Nat) : Int)], by omega, by go_num, by rw [List.length_append, HLn.out]; simp; omega, Lib.hid HS2.out.symm, HF2⟩
          case measure => simp [intOf]; omega
        · have HS2 := Lib.hid (show fxP s (m + 1) = xs by rw [HS.out, HX.out, if_neg (by simpa using hzn), List.append_nil])
          have he1 : ((z.natAbs : Int) == (s.size : Int)) = false := by rw [beq_eq_false_iff_ne]; omega
          have he2 : (z.natAbs == s.size) = false := by rw [beq_eq_false_iff_ne]; exact hzn
          obtain ⟨ab, hab⟩ : ∃ ab, z.natAbs = ab := ⟨_, rfl⟩
          have HC := Lib.hid (fun w => sizeT_any z w hz1 hz2)
          rw [hab] at HC he1 he2
          clear hab hzn
          go_wp2_with fail
          refine (HC.out _).mono ?_
          rintro e w' ⟨rfl, rfl⟩
          go_wp2
          go_roundw
          case rel => exact ⟨m + 1, xs, by omega, by go_num, by omega, Lib.hid HS2.out.symm, HF⟩
          case measure => simp [intOf]; omega
      · obtain rfl : m = s.size := by omega
        have hG := HF.out.1
        obtain ⟨a', c', rfl, hL, hbw⟩ := retSl_of hG
        have HR := Lib.hid (And.intro hL hbw)
        clear hG hL hbw
        go_wp2
        go_ret2
        rw [show fxL s = xs from HX.out.symm]
        exact ⟨a', c', rfl, HR.out.1, HR.out.2⟩
end Go.Proofs.YtgfkaldndaepfaaDoor

import Derived.Test.YtfageonhlmhhpaaAliasW
import Derived.Test.YtfageonhlmhhpaaDyad
/- The reference's alias table: the whole function. -/
namespace Go.Proofs.Ytfageonhlmhhpaa
open Go.RowKit
set_option linter.unusedVariables false

/-- The reference's cuts: -1 where a column is not done. -/
def Al.cutS (s : Al.St) (n : Nat) : List Int := (List.range n).map fun i => if s.dn.getD i false then s.ct.getD i 0 else -1
theorem Al.cutS_len (s : Al.St) (n : Nat) : (Al.cutS s n).length = n := by simp [Al.cutS]
theorem Al.cutS_dn {s : Al.St} {n i : Nat} (hi : i < n) (h : s.dn.getD i false = true) : (Al.cutS s n).getD i 0 = s.ct.getD i 0 := by
  rw [getD_eq _ _ (by rw [Al.cutS_len]; exact hi)]
  simp only [Al.cutS, List.getElem_map, List.getElem_range]
  exact if_pos h
theorem Al.cutS_nd {s : Al.St} {n i : Nat} (hi : i < n) (h : s.dn.getD i false = false) : (Al.cutS s n).getD i 0 = -1 := by
  rw [getD_eq _ _ (by rw [Al.cutS_len]; exact hi)]
  simp only [Al.cutS, List.getElem_map, List.getElem_range]
  exact if_neg (by rw [h]; simp)

/-- The cuts while -1 is turned into the total. -/
def Al.fix (s : Al.St) (n k : Nat) : List Int := s.ct.take k ++ (Al.cutS s n).drop k
theorem Al.fix_len {s : Al.St} {n k : Nat} (hl : s.ct.length = n) (hk : k ≤ n) : (Al.fix s n k).length = n := by simp [Al.fix, Al.cutS_len, hl]; omega
theorem Al.fix_zero (s : Al.St) (n : Nat) : Al.fix s n 0 = Al.cutS s n := by simp [Al.fix]
theorem Al.fix_all {s : Al.St} {n : Nat} (hl : s.ct.length = n) : Al.fix s n n = s.ct := by
  unfold Al.fix
  rw [List.drop_of_length_le (by rw [Al.cutS_len]; exact Nat.le_refl _), List.append_nil, List.take_of_length_le (by omega)]
theorem Al.fix_at {s : Al.St} {n k : Nat} (hl : s.ct.length = n) (hk : k < n) : (Al.fix s n k).getD k 0 = (Al.cutS s n).getD k 0 := by
  have e : (s.ct.take k).length = k := by simp [hl]; omega
  have e1 : (Al.fix s n k)[k]? = (Al.cutS s n)[k]? := by
    unfold Al.fix
    rw [List.getElem?_append_right (by omega), List.getElem?_drop, e]
    simp
  unfold List.getD
  rw [e1]
theorem Al.fix_set {s : Al.St} {n k : Nat} (hl : s.ct.length = n) (hk : k < n) : (Al.fix s n k).set k (s.ct.getD k 0) = Al.fix s n (k + 1) := by
  have e : (s.ct.take k).length = k := by simp [hl]; omega
  have hk2 : k < (Al.cutS s n).length := by rw [Al.cutS_len]; exact hk
  unfold Al.fix
  rw [take_snoc _ k (by omega), List.set_append_right _ _ (by omega), e, Nat.sub_self, List.append_assoc, List.drop_eq_getElem_cons hk2]
  rfl
theorem Al.fix_same {s : Al.St} {n k : Nat} (hl : s.ct.length = n) (hk : k < n) (hd : s.dn.getD k false = true) : Al.fix s n k = Al.fix s n (k + 1) := by
  have hk2 : k < (Al.cutS s n).length := by rw [Al.cutS_len]; exact hk
  have e : (Al.cutS s n)[k] = s.ct.getD k 0 := by rw [← getD_eq _ _ hk2]; exact Al.cutS_dn hk hd
  unfold Al.fix
  rw [take_snoc _ k (by omega), List.drop_eq_getElem_cons hk2, e, List.append_assoc]
  rfl
theorem Al.cutS_next {T : Int} {s : Al.St} {n i j : Nat} (hi : i < n) (hcl : s.ct.length = n) (hdl : s.dn.length = n) : Al.cutS (Al.next T s i j) n = (Al.cutS s n).set i (s.sh.getD i 0) := by
  apply List.ext_getElem
  · simp [Al.cutS_len]
  · intro k h1 h2
    rw [Al.cutS_len] at h1
    rw [List.getElem_set]
    by_cases hk : i = k
    · subst hk
      rw [if_pos rfl]
      have e1 : (Al.next T s i j).dn.getD i false = true := Al.getD_set_eq _ _ _ _ (by omega)
      have e2 : (Al.next T s i j).ct.getD i 0 = s.sh.getD i 0 := Al.getD_set_eq _ _ _ _ (by omega)
      simp only [Al.cutS, List.getElem_map, List.getElem_range]
      rw [if_pos e1, e2]
    · rw [if_neg hk]
      have e1 : (Al.next T s i j).dn.getD k false = s.dn.getD k false := Al.getD_set_ne _ _ _ _ _ hk
      have e2 : (Al.next T s i j).ct.getD k 0 = s.ct.getD k 0 := Al.getD_set_ne _ _ _ _ _ hk
      simp only [Al.cutS, List.getElem_map, List.getElem_range, e1, e2]
theorem Al.cutS_start (ws : List Int) (T : Int) : Al.cutS (Al.start ws T) ws.length = List.replicate ws.length (-1) := by
  apply List.ext_getElem
  · simp [Al.cutS_len]
  · intro k h1 h2
    have hdn : (Al.start ws T).dn.getD k false = false := by
      simp only [Al.start, List.getD, List.getElem?_replicate]; split <;> rfl
    simp only [Al.cutS, List.getElem_map, List.getElem_range, List.getElem_replicate]
    rw [if_neg (by rw [hdn]; simp)]

def spL (gs gc go cs cc co : Nat) (sh ct ot : List Int) : List (Nat × (Obj → Prop)) :=
  [(gs, rowO 2 cs (sh.map (Value.int .i64))), (gc, rowO 2 cc (ct.map (Value.int .i64))), (go, rowO 2 co (ot.map (Value.int .i64)))]

/-- One append to one of the call's own slices of numbers. -/
theorem spAp {w wr w' : World} {B : Nat} {l : List (Nat × (Obj → Prop))} {o : Obj} (h : Owns wr B l) (hb : Below B w wr) (hB : B ≤ wr.heap.size) (i : Nat) {g c k : Nat} {xs : List Int} {x : Int} (hi : l[i]? = some (g, rowO 2 c (xs.map (Value.int .i64)))) {v' : Value}
    (hown : w'.ownsRow B 2 1 v' (k + 1) (xs.map (Value.int .i64) ++ [.int .i64 x])) (hgrow : (wr.alloc o).grownBy w' (Value.ownBlock (.slice (some ⟨g, 0, none⟩) k c)))
    (hat : v'.ownBlock = Value.ownBlock (.slice (some ⟨g, 0, none⟩) k c) ∨ v'.ownBlock = some (wr.heap.size + 1)) :
    ∃ g' c', v' = .slice (some ⟨g', 0, none⟩) (k + 1) c' ∧ Owns w' B (l.set i (g', rowO 2 c' ((xs ++ [x]).map (Value.int .i64)))) ∧ Below B w w' := by
  obtain ⟨g', c', e, O⟩ := (h.alloc o).ap i hi hown hgrow (by rw [alloc_size]; exact hat)
  have hlo := (h.lt (List.mem_of_getElem? hi)).1
  refine ⟨g', c', e, by simpa using O, (hb.alloc hB o).grown hgrow (by simp only [alloc_size]; omega) (fun j hj => by simp [Value.ownBlock] at hj; omega)⟩

set_option maxRecDepth 100000 in
set_option maxHeartbeats 3200000 in
theorem l06Alias_any (a : Option Addr) (cap : Nat) (ws : List Int) (w : World) (hx : IsInts w a ws.length ws) (hn : ws.length ≤ 16) (hn1 : 1 ≤ ws.length) (h0 : ∀ x ∈ ws, 0 ≤ x ∧ x ≤ 1000000) (hT : totalR ws = ws.sum) (h1 : 1 ≤ ws.sum) (h2 : ws.sum ≤ 1000000) :
    Calls Try.prog 37 #[.slice a ws.length cap] w fun e w' => RetAl w ws (totalR ws) e w' := by
  have HT := Lib.hid hT
  clear hT
  have hT1 : 1 ≤ totalR ws := by rw [HT.out]; exact h1
  have hT2 : totalR ws ≤ 1000000 := by rw [HT.out]; exact h2
  clear h1 h2
  go_enter Try.func37, Try.ntmps37
  go_wp2_with fail
  refine (l06Total_any _ _ _ ws _ (by omega) hx).mono ?_
  rintro e w' ⟨rfl, rfl⟩
  go_wp2
  have hO : Owns (((w.alloc (.cells #[] 2)).alloc (.cells #[] 2)).alloc (.cells #[] 2)) w.heap.size (spL w.heap.size (w.heap.size + 1) (w.heap.size + 1 + 1) 0 0 0 [] [] []) := by
    have e : ∀ o, o = Obj.cells #[] 2 → rowO 2 0 (([] : List Int).map (Value.int .i64)) o := fun o ho => ⟨#[], ho, rfl, by simp, by simp [maxLen], by simp⟩
    have o1 := (Owns.nil w w.heap.size).new (Nat.le_refl _) (e _ rfl)
    have o2 := o1.new (by simp only [alloc_size]; omega) (e _ rfl)
    have o3 := o2.new (by simp only [alloc_size]; omega) (e _ rfl)
    simp only [alloc_size] at o3
    exact o3.perm (by unfold spL; exact (List.perm_append_comm (l₁ := [_, _]) (l₂ := [_])).trans ((List.Perm.swap _ _ _).symm.cons _))
  have hb : Below w.heap.size w (((w.alloc (.cells #[] 2)).alloc (.cells #[] 2)).alloc (.cells #[] 2)) :=
    (((Below.refl _ w).alloc (Nat.le_refl _) _).alloc (by simp only [alloc_size]; omega) _).alloc (by simp only [alloc_size]; omega) _
  have HO := Lib.hid hO
  have Hb := Lib.hid hb
  clear hO hb
  go_loopg [9, 6, 7, 8] (ws.length) (fun g i v6 v7 v8 wr => ∃ k gs gc go cs cc co, k ≤ ws.length ∧ g = ws.length - k ∧ i = .int .i64 (k : Nat) ∧ v6 = .slice (some ⟨gs, 0, none⟩) k cs ∧ v7 = .slice (some ⟨gc, 0, none⟩) k cc ∧ v8 = .slice (some ⟨go, 0, none⟩) k co ∧
      Owns wr w.heap.size (spL gs gc go cs cc co ((Al.start ws (totalR ws)).sh.take k) (List.replicate k (-1)) ((Al.start ws (totalR ws)).ot.take k)) ∧ Below w.heap.size w wr)
  case atStart => exact ⟨0, _, _, _, 0, 0, 0, Nat.zero_le _, rfl, rfl, rfl, rfl, rfl, HO.out, Hb.out⟩
  case round =>
    obtain ⟨k, gs, gc, go, cs, cc, co, hk, rfl, rfl, rfl, rfl, rfl, hO, hb⟩ := hrel
    have hxr := hx.below hb
    by_cases hlt : k < ws.length
    · obtain ⟨b, off, ha, h1⟩ := hxr.at hlt
      subst ha
      have hk0 : (0:Int) ≤ (k:Int) := by omega
      have hkl : (k:Int) < (ws.length:Int) := by omega
      have hw : 0 ≤ ws.getD k 0 ∧ ws.getD k 0 ≤ 1000000 := by rw [getD_eq _ _ hlt]; exact h0 _ (List.getElem_mem hlt)
      have hm0 : 0 ≤ (ws.length : Int) * ws.getD k 0 := Int.mul_nonneg (by omega) hw.1
      have hm1 : (ws.length : Int) * ws.getD k 0 ≤ 16000000 := by
        have : (ws.length : Int) * ws.getD k 0 ≤ 16 * ws.getD k 0 := Int.mul_le_mul_of_nonneg_right (by omega) hw.1
        omega
      obtain ⟨x, hxe⟩ : ∃ x, ws.getD k 0 = x := ⟨_, rfl⟩
      rw [hxe] at h1 hm0 hm1
      have HX := Lib.hid hxe
      clear hxe hw
      have hB := hb.size
      have l1 : ((Al.start ws (totalR ws)).sh.take k).length = k := by simp [Al.start]; omega
      have l3 : ((Al.start ws (totalR ws)).ot.take k).length = k := by simp [Al.start]; omega
      obtain ⟨S, hS⟩ : ∃ S, (Al.start ws (totalR ws)).sh.take k = S := ⟨_, rfl⟩
      obtain ⟨O, hO'⟩ : ∃ O, (Al.start ws (totalR ws)).ot.take k = O := ⟨_, rfl⟩
      obtain ⟨C, hC⟩ : ∃ C, List.replicate k (-1 : Int) = C := ⟨_, rfl⟩
      have l2 : C.length = k := by rw [← hC]; simp
      rw [hS] at hO l1
      rw [hC] at hO
      rw [hO'] at hO l3
      have HO := Lib.hid hO
      have Hb := Lib.hid hb
      have L1 := Lib.hid l1
      have L2 := Lib.hid l2
      have L3 := Lib.hid l3
      have HSO := Lib.hid (And.intro hS (And.intro hO' hC))
      clear hO hb hxr l1 l2 l3 hS hO' hC
      go_wp2_with (at_builtin; refine wpList_ap1 rfl (.tmp 25) (.tmp 32) 22 rfl w.heap.size 2 (.int .i64 0) 8 Try.underlying22 Try.infoI rfl _ k _ rfl (own_n ((HO.out.alloc _).rowAt 0 rfl).1 (by simpa using L1.out)) wr.heap.size (.int .i64 ((ws.length : Int) * x)) rfl (by go_simp) rfl (by omega) (by omega) (by simp only [alloc_size]; omega) ?_)
      intro v' w1 hown hgrow hat
      obtain ⟨gs2, cs2, rfl, O1, B1⟩ := spAp HO.out Hb.out hB 0 rfl hown hgrow hat
      have HO1 := Lib.hid O1
      have Hb1 := Lib.hid B1
      have hB1 := B1.size
      clear hown hgrow hat O1 B1 h1 hm0 hm1 hB
      go_wp2_with (at_builtin; refine wpList_ap1 rfl (.tmp 34) (.tmp 35) 22 rfl w.heap.size 2 (.int .i64 0) 8 Try.underlying22 Try.infoI rfl _ k _ rfl (own_n ((HO1.out.alloc _).rowAt 1 rfl).1 (by simpa using L2.out)) w1.heap.size (.int .i64 (-1)) rfl (by go_simp) rfl (by omega) (by omega) (by simp only [alloc_size]; omega) ?_)
      intro v' w2 hown hgrow hat
      obtain ⟨gc2, cc2, rfl, O2, B2⟩ := spAp HO1.out Hb1.out hB1 1 rfl hown hgrow hat
      have HO2 := Lib.hid O2
      have Hb2 := Lib.hid B2
      have hB2 := B2.size
      clear hown hgrow hat O2 B2 hB1
      go_wp2_with (at_builtin; refine wpList_ap1 rfl (.tmp 37) (.tmp 39) 22 rfl w.heap.size 2 (.int .i64 0) 8 Try.underlying22 Try.infoI rfl _ k _ rfl (own_n ((HO2.out.alloc _).rowAt 2 rfl).1 (by simpa using L3.out)) w2.heap.size (.int .i64 (k : Nat)) rfl (by go_simp) rfl (by omega) (by omega) (by simp only [alloc_size]; omega) ?_)
      intro v' w3 hown hgrow hat
      obtain ⟨go2, co2, rfl, O3, B3⟩ := spAp HO2.out Hb2.out hB2 2 rfl hown hgrow hat
      have HO3 := Lib.hid O3
      have Hb3 := Lib.hid B3
      clear hown hgrow hat O3 B3 hB2
      go_wp2
      go_roundg (ws.length - (k + 1))
      case measure => omega
      case rel =>
        refine ⟨k + 1, gs2, gc2, go2, cs2, cc2, co2, by omega, rfl, by go_num, rfl, rfl, rfl, ?_, Hb3.out⟩
        have e1 : (Al.start ws (totalR ws)).sh.take (k + 1) = (Al.start ws (totalR ws)).sh.take k ++ [(ws.length : Int) * x] := (begun_push ws _ x k k hlt HX.out).symm
        have e2 : List.replicate (k + 1) (-1 : Int) = List.replicate k (-1) ++ [-1] := List.replicate_succ'
        have e3 : (Al.start ws (totalR ws)).ot.take (k + 1) = (Al.start ws (totalR ws)).ot.take k ++ [((k : Nat) : Int)] := by
          rw [take_snoc _ k (by simp [Al.start]; exact hlt)]
          simp [Al.start, List.getD, hlt]
        rw [e1, e2, e3, HSO.out.1, HSO.out.2.1, HSO.out.2.2]
        exact HO3.out
    · have hkl : k = ws.length := by omega
      subst hkl
      have hI := Al.inv_start ws (totalR ws) hn h0 HT.out.symm hT1 hT2
      have e2 : (Al.start ws (totalR ws)).sh.take ws.length = (Al.start ws (totalR ws)).sh := List.take_of_length_le (by simp [Al.start])
      have e3 : (Al.start ws (totalR ws)).ot.take ws.length = (Al.start ws (totalR ws)).ot := List.take_of_length_le (by simp [Al.start])
      rw [e2, e3, ← Al.cutS_start ws (totalR ws)] at hO
      have HO := Lib.hid hO
      have Hb := Lib.hid hb
      have HI := Lib.hid hI
      clear hO hb hI e2 e3 hxr
      go_wp2
      go_loopg [10] (ws.length) (fun g _ wr => ∃ s, Al.Inv ws.length (totalR ws) s ∧ Al.left s ≤ g ∧ Al.run (totalR ws) g s = Al.run (totalR ws) ws.length (Al.start ws (totalR ws)) ∧ Owns wr w.heap.size (spL gs gc go cs cc co s.sh (Al.cutS s ws.length) s.ot) ∧ Below w.heap.size w wr)
      case atStart => exact ⟨_, HI.out, by rw [Al.left_start]; omega, rfl, HO.out, Hb.out⟩
      case round =>
        obtain ⟨s, hI, hleft, hrun, hO, hb⟩ := hrel
        cases hlow : Al.low (totalR ws) s with
        | none =>
          have hnone := Al.low_none hlow
          rw [hI.shl] at hnone
          rw [Al.run_low_none hlow] at hrun
          have HL := Lib.hid (And.intro hnone (And.intro hrun (And.intro hO (And.intro hb hI))))
          clear hnone hrun hO hb hI hlow
          go_wp2
          go_loopw [10] (fun i wx => ∃ k : Nat, k ≤ ws.length ∧ i = .int .i64 k ∧ wx = wr) (fun i _ => ws.length - (intOf i).toNat)
          case atStart => exact ⟨0, Nat.zero_le _, rfl, rfl⟩
          case round =>
            obtain ⟨k, hk, rfl, rfl⟩ := hrel
            by_cases hlt : k < ws.length
            · have hk0 : (0:Int) ≤ (k:Int) := by omega
              have hkl : (k:Int) < (ws.length:Int) := by omega
              obtain ⟨hnone, hrun, hO, hb, hI⟩ := HL.out
              have c1 := hO.intAt 0 rfl k (by rw [hI.shl]; exact hlt)
              have c2 := hO.intAt 1 rfl k (by rw [Al.cutS_len]; exact hlt)
              have hlo := hnone k hlt
              cases hd : s.dn.getD k false with
              | true =>
                rw [Al.cutS_dn hlt hd] at c2
                have h3 := (hI.ctd k hlt hd).1
                obtain ⟨x, hx⟩ : ∃ x, s.ct.getD k 0 = x := ⟨_, rfl⟩
                rw [hx] at c2 h3
                clear hx hd hlo c1 hnone hrun hO hb hI
                go_wp2
                go_roundw
                case rel => exact ⟨k + 1, by omega, by go_num, trivial⟩
                case measure => simp [intOf]; omega
              | false =>
                rw [Al.cutS_nd hlt hd] at c2
                simp only [Al.isLow, hd, Bool.not_false, Bool.true_and, decide_eq_false_iff_not] at hlo
                obtain ⟨x, hx⟩ : ∃ x, s.sh.getD k 0 = x := ⟨_, rfl⟩
                rw [hx] at c1 hlo
                clear hx hd hnone hrun hO hb hI
                go_wp2
                go_roundw
                case rel => exact ⟨k + 1, by omega, by go_num, trivial⟩
                case measure => simp [intOf]; omega
            · have hkl : k = ws.length := by omega
              subst hkl
              go_wp2
              go_loopg [12] (ws.length) (fun g i wx => ∃ k : Nat, k ≤ ws.length ∧ g = ws.length - k ∧ i = .int .i64 k ∧ Owns wx w.heap.size (spL gs gc go cs cc co s.sh (Al.fix s ws.length k) s.ot) ∧ Below w.heap.size w wx)
              case atStart => exact ⟨0, Nat.zero_le _, rfl, rfl, by rw [Al.fix_zero]; exact HL.out.2.2.1, HL.out.2.2.2.1⟩
              case round =>
                obtain ⟨k, hk, rfl, rfl, hO, hb⟩ := hrel
                by_cases hlt : k < ws.length
                · have hk0 : (0:Int) ≤ (k:Int) := by omega
                  have hkl : (k:Int) < (ws.length:Int) := by omega
                  have hI := HL.out.2.2.2.2
                  have c2 := hO.intAt 1 rfl k (by rw [Al.fix_len hI.ctl hk]; exact hlt)
                  have f2 := hO.frozenAt 1 rfl k
                  rw [Al.fix_at hI.ctl hlt] at c2
                  cases hd : s.dn.getD k false with
                  | true =>
                    rw [Al.cutS_dn hlt hd] at c2
                    have h3 := (hI.ctd k hlt hd).1
                    have HF := Lib.hid (Al.fix_same hI.ctl hlt hd)
                    obtain ⟨x, hx⟩ : ∃ x, s.ct.getD k 0 = x := ⟨_, rfl⟩
                    rw [hx] at c2 h3
                    have HO := Lib.hid hO
                    have Hb := Lib.hid hb
                    clear hx hd hI hO hb
                    go_wp2
                    go_roundg (ws.length - (k + 1))
                    case measure => omega
                    case rel => exact ⟨k + 1, by omega, rfl, by go_num, by rw [← HF.out]; exact HO.out, Hb.out⟩
                  | false =>
                    rw [Al.cutS_nd hlt hd] at c2
                    have e4 := Al.fix_set hI.ctl hlt
                    rw [hI.ctn k hlt hd] at e4
                    have HF := Lib.hid e4
                    have HO := Lib.hid hO
                    have Hb := Lib.hid hb
                    clear hd hI e4 hO hb
                    go_wp2
                    go_roundg (ws.length - (k + 1))
                    case measure => omega
                    case rel =>
                      refine ⟨k + 1, by omega, rfl, by go_num, ?_, Hb.out.setCell (HO.out.lt (List.mem_of_getElem? (i := 1) rfl)).1 _⟩
                      rw [← HF.out]
                      exact HO.out.setInt 1 rfl k _
                · have hkl : k = ws.length := by omega
                  subst hkl
                  have HO := Lib.hid hO
                  have Hb := Lib.hid hb
                  clear hO hb
                  go_wp2
                  go_ret2
                  obtain ⟨hnone, hrun, _, _, hI⟩ := HL.out
                  refine ⟨gc, go, cc, co, rfl, ?_, Hb.out⟩
                  rw [← hrun, ← Al.fix_all hI.ctl]
                  rw [Al.fix_all hI.ctl]
                  have := HO.out
                  rw [Al.fix_all hI.ctl] at this
                  exact this.sub (by unfold spL; exact .cons _ (.refl _))
        | some i =>
          obtain ⟨j, hhigh⟩ := Al.high_exists hI hlow
          obtain ⟨i1, i2, i3, i4⟩ := Al.low_some hlow
          obtain ⟨j1, j2, j3, j4⟩ := Al.high_some hhigh
          have hii := i1
          have hjj := j1
          rw [hI.shl] at hii hjj
          have hijn : i ≠ j := by rintro rfl; omega
          have hi0 := hI.sh0 i hii
          have hj1 := hI.sh1 j hjj
          obtain ⟨xi, hxi⟩ : ∃ x, s.sh.getD i 0 = x := ⟨_, rfl⟩
          obtain ⟨xj, hxj⟩ : ∃ x, s.sh.getD j 0 = x := ⟨_, rfl⟩
          rw [hxi] at i3 hi0
          rw [hxj] at j3 hj1
          have HL := Lib.hid (And.intro hlow (And.intro hhigh (And.intro hrun (And.intro hO (And.intro hb (And.intro hI (And.intro hxi hxj)))))))
          have H4 := Lib.hid (And.intro i4 (And.intro j4 (And.intro i2 j2)))
          have k1 : (0 : Int) ≤ (i : Int) := by omega
          have k2 : (i : Int) < (ws.length : Int) := by omega
          have k3 : (0 : Int) ≤ (j : Int) := by omega
          have k4 : (j : Int) < (ws.length : Int) := by omega
          clear hlow hhigh hrun hO hb hI hxi hxj i1 i2 j1 j2 i4 j4
          go_wp2
          go_loopw [10] (fun v wx => ∃ k : Nat, k ≤ i ∧ v = .int .i64 k ∧ wx = wr) (fun v _ => i - (intOf v).toNat)
          case atStart => exact ⟨0, Nat.zero_le _, rfl, rfl⟩
          case round =>
            obtain ⟨k, hk, rfl, rfl⟩ := hrel
            by_cases hlt : k < i
            · have hk0 : (0:Int) ≤ (k:Int) := by omega
              have hkl : (k:Int) < (ws.length:Int) := by omega
              have hkn : k < ws.length := by omega
              obtain ⟨_, _, _, hO, _, hI, _⟩ := HL.out
              have c1 := hO.intAt 0 rfl k (by rw [hI.shl]; exact hkn)
              have c2 := hO.intAt 1 rfl k (by rw [Al.cutS_len]; exact hkn)
              have hlo := H4.out.1 k hlt
              cases hd : s.dn.getD k false with
              | true =>
                rw [Al.cutS_dn hkn hd] at c2
                have h3 := (hI.ctd k hkn hd).1
                obtain ⟨x, hx⟩ : ∃ x, s.ct.getD k 0 = x := ⟨_, rfl⟩
                rw [hx] at c2 h3
                clear hx hd hlo c1 hO hI
                go_wp2
                go_roundw
                case rel => exact ⟨k + 1, by omega, by go_num, trivial⟩
                case measure => simp [intOf]; omega
              | false =>
                rw [Al.cutS_nd hkn hd] at c2
                simp only [Al.isLow, hd, Bool.not_false, Bool.true_and, decide_eq_false_iff_not] at hlo
                obtain ⟨x, hx⟩ : ∃ x, s.sh.getD k 0 = x := ⟨_, rfl⟩
                rw [hx] at c1 hlo
                clear hx hd hO hI
                go_wp2
                go_roundw
                case rel => exact ⟨k + 1, by omega, by go_num, trivial⟩
                case measure => simp [intOf]; omega
            · have hkl : k = i := by omega
              subst hkl
              obtain ⟨_, _, _, hO, _, hI, hxi, _⟩ := HL.out
              have c1 := hO.intAt 0 rfl k (by rw [hI.shl]; exact hii)
              have c2 := hO.intAt 1 rfl k (by rw [Al.cutS_len]; exact hii)
              rw [Al.cutS_nd hii H4.out.2.2.1] at c2
              rw [hxi] at c1
              clear hO hI hxi
              go_wp2
              go_loopw [11] (fun v wx => ∃ m : Nat, m ≤ j ∧ v = .int .i64 m ∧ wx = wr) (fun v _ => j - (intOf v).toNat)
              case atStart => exact ⟨0, Nat.zero_le _, rfl, rfl⟩
              case round =>
                obtain ⟨m, hm, rfl, rfl⟩ := hrel
                by_cases hlt : m < j
                · have hm0 : (0:Int) ≤ (m:Int) := by omega
                  have hml : (m:Int) < (ws.length:Int) := by omega
                  have hmn : m < ws.length := by omega
                  obtain ⟨_, _, _, hO, _, hI, _⟩ := HL.out
                  have c3 := hO.intAt 0 rfl m (by rw [hI.shl]; exact hmn)
                  have c4 := hO.intAt 1 rfl m (by rw [Al.cutS_len]; exact hmn)
                  have hlo := H4.out.2.1 m hlt
                  obtain ⟨x, hx⟩ : ∃ x, s.sh.getD m 0 = x := ⟨_, rfl⟩
                  rw [hx] at c3
                  by_cases hle : x ≤ totalR ws
                  · clear hx hlo c4 hO hI
                    go_wp2
                    go_roundw
                    case rel => exact ⟨m + 1, by omega, by go_num, trivial⟩
                    case measure => simp [intOf]; omega
                  · cases hd : s.dn.getD m false with
                    | true =>
                      rw [Al.cutS_dn hmn hd] at c4
                      have h3 := (hI.ctd m hmn hd).1
                      obtain ⟨y, hy⟩ : ∃ y, s.ct.getD m 0 = y := ⟨_, rfl⟩
                      rw [hy] at c4 h3
                      clear hx hd hlo hO hI hy
                      go_wp2
                      go_roundw
                      case rel => exact ⟨m + 1, by omega, by go_num, trivial⟩
                      case measure => simp [intOf]; omega
                    | false =>
                      exfalso
                      simp only [Al.isHigh, hd, Bool.not_false, Bool.true_and, decide_eq_false_iff_not] at hlo
                      omega
                · have hml : m = j := by omega
                  subst hml
                  obtain ⟨_, _, _, hO, hb, hI, hxi, hxj⟩ := HL.out
                  have c3 := hO.intAt 0 rfl m (by rw [hI.shl]; exact hjj)
                  have c4 := hO.intAt 1 rfl m (by rw [Al.cutS_len]; exact hjj)
                  have c5 := hO.intAt 2 rfl k (by rw [hI.otl]; exact hii)
                  have f2 := hO.frozenAt 1 rfl k
                  have f3 := hO.frozenAt 2 rfl k
                  rw [Al.cutS_nd hjj H4.out.2.2.2] at c4
                  rw [hxj] at c3
                  have hnd := hO.nd
                  simp only [spL, List.map_cons, List.map_nil, List.nodup_cons, List.mem_cons, List.not_mem_nil, or_false, not_or] at hnd
                  obtain ⟨⟨n1, n2⟩, n3, _⟩ := hnd
                  clear hO hb hI hxi hxj
                  go_wp2_with fail
                  obtain ⟨wc, hwc⟩ : ∃ wc, wc = ((wr.setCell ⟨gc, k, none⟩ (.int .i64 xi)).setCell ⟨go, k, none⟩ (.int .i64 (m : Nat))) := ⟨_, rfl⟩
                  rw [← hwc]
                  obtain ⟨hO3, hb3⟩ : Owns wc w.heap.size (spL gs gc go cs cc co s.sh ((Al.cutS s ws.length).set k xi) (s.ot.set k (m : Nat))) ∧ Below w.heap.size w wc := by
                    rw [hwc]
                    obtain ⟨_, _, _, hO, hb, hI, hxi, hxj⟩ := HL.out
                    have p1 : w.heap.size ≤ gc := (hO.lt (List.mem_of_getElem? (i := 1) rfl)).1
                    have p2 : w.heap.size ≤ go := (hO.lt (List.mem_of_getElem? (i := 2) rfl)).1
                    exact ⟨((hO.setInt 1 rfl k xi).setInt 2 rfl k (m : Nat)), ((hb.setCell (p := ⟨gc, k, none⟩) p1 _).setCell (p := ⟨go, k, none⟩) p2 _)⟩
                  clear hwc
                  clear c1 c2 c3 c4 c5 f2 f3 n1 n2 n3
                  obtain ⟨_, _, _, _, _, hI, hxi, hxj⟩ := HL.out
                  have c1 := hO3.intAt 0 rfl k (by rw [hI.shl]; exact hii)
                  have c2 := hO3.intAt 0 rfl m (by rw [hI.shl]; exact hjj)
                  have f2 := hO3.frozenAt 0 rfl m
                  rw [hxi] at c1
                  rw [hxj] at c2
                  clear hI hxi hxj
                  have w1 : IntKind.i64.wrap (totalR ws - xi) = totalR ws - xi := IntWalk.i64_in _ (by omega)
                  have w2 : IntKind.i64.wrap (xj - (totalR ws - xi)) = xj - (totalR ws - xi) := IntWalk.i64_in _ (by omega)
                  have HO3 := Lib.hid hO3
                  have Hb3 := Lib.hid hb3
                  clear hO3 hb3
                  go_wp2_with fail
                  go_region
                  all_goals (try go_wp2_with fail)
                  all_goals
                    have p0 : w.heap.size ≤ gs := (HO3.out.lt (List.mem_of_getElem? (i := 0) rfl)).1
                    obtain ⟨hlow, hhigh, hrun, _, _, hI, e1, e2⟩ := HL.out
                    have hnl := Al.left_next (j := m) hI hlow
                    obtain ⟨g', hg'⟩ : ∃ g', gk = g' + 1 := ⟨gk - 1, by omega⟩
                    go_roundg g'
                    case measure => omega
                    case rel =>
                      refine ⟨Al.next (totalR ws) s k m, Al.inv_next hI hlow hhigh, by omega, ?_, ?_, (Hb3.out.setCell (p := ⟨gs, m, none⟩) p0 _).drew⟩
                      · rw [← hrun, hg', Al.run_step hlow hhigh]
                      · rw [Al.cutS_next hii hI.ctl hI.dnl, e1]
                        have e : (Al.next (totalR ws) s k m).sh = s.sh.set m (xj - (totalR ws - xi)) := by
                          unfold Al.next
                          rw [e1, e2]
                        rw [e]
                        exact (HO3.out.setInt 0 rfl m (xj - (totalR ws - xi))).drew

end Go.Proofs.Ytfageonhlmhhpaa

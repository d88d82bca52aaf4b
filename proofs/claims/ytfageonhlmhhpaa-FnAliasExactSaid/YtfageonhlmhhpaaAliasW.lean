import Derived.Test.YtfageonhlmhhpaaAlias
import Derived.Deep.DeepCutAuto
import Derived.Outline
/- The program's alias table: the whole function. -/
namespace Go.Proofs.Ytfageonhlmhhpaa
open Go.RowKit
set_option linter.unusedVariables false

/-- The shares while they are built. -/
def Al.begun (ws : List Int) (T : Int) (k1 k2 : Nat) : Al.St :=
  ⟨(Al.start ws T).sh.take k1, (Al.start ws T).ct.take k2, (Al.start ws T).ot.take k2, (Al.start ws T).dn⟩

def AlR0 (w0 : World) (ws : List Int) (T : Int) (v4 v5 v6 v7 v8 : Value) (wc : World) : Prop :=
  ∃ ba bs bd gs gc go gd cs cc co, v4 = .pointer (some ⟨ba, 0, none⟩) ∧ v5 = .pointer (some ⟨bs, 0, none⟩) ∧ v8 = .pointer (some ⟨bd, 0, none⟩) ∧
    v6 = .slice (some ⟨gc, 0, none⟩) 0 cc ∧ v7 = .slice (some ⟨go, 0, none⟩) 0 co ∧
    Owns wc w0.heap.size (alL ba bs bd gs gc go gd cs cc co ws.length 0 ws.length T (Al.begun ws T 0 0)) ∧ Below w0.heap.size w0 wc

theorem below7 (w : World) (o1 o2 o3 o4 o5 o6 o7 : Obj) : Below w.heap.size w (((((((w.alloc o1).alloc o2).alloc o3).alloc o4).alloc o5).alloc o6).alloc o7).drew :=
  Below.drew ((((((((Below.refl _ w).alloc (Nat.le_refl _) _).alloc (by simp only [alloc_size]; omega) _).alloc (by simp only [alloc_size]; omega) _).alloc (by simp only [alloc_size]; omega) _).alloc (by simp only [alloc_size]; omega) _).alloc (by simp only [alloc_size]; omega) _).alloc (by simp only [alloc_size]; omega) _)

theorem at0 (w : World) (o0 o1 o2 o3 o4 o5 o6 : Obj) : (((((((w.alloc o0).alloc o1).alloc o2).alloc o3).alloc o4).alloc o5).alloc o6).drew.heap[w.heap.size]? = some o0 := by
  simp only [heap_drew, heap_alloc_if, alloc_size]
  rw [if_neg (by omega)]
  rw [if_neg (by omega)]
  rw [if_neg (by omega)]
  rw [if_neg (by omega)]
  rw [if_neg (by omega)]
  rw [if_neg (by omega)]
  rw [if_pos trivial]
theorem at1 (w : World) (o0 o1 o2 o3 o4 o5 o6 : Obj) : (((((((w.alloc o0).alloc o1).alloc o2).alloc o3).alloc o4).alloc o5).alloc o6).drew.heap[w.heap.size + 1]? = some o1 := by
  simp only [heap_drew, heap_alloc_if, alloc_size]
  rw [if_neg (by omega)]
  rw [if_neg (by omega)]
  rw [if_neg (by omega)]
  rw [if_neg (by omega)]
  rw [if_neg (by omega)]
  rw [if_pos trivial]
theorem at2 (w : World) (o0 o1 o2 o3 o4 o5 o6 : Obj) : (((((((w.alloc o0).alloc o1).alloc o2).alloc o3).alloc o4).alloc o5).alloc o6).drew.heap[w.heap.size + 1 + 1]? = some o2 := by
  simp only [heap_drew, heap_alloc_if, alloc_size]
  rw [if_neg (by omega)]
  rw [if_neg (by omega)]
  rw [if_neg (by omega)]
  rw [if_neg (by omega)]
  rw [if_pos trivial]
theorem at3 (w : World) (o0 o1 o2 o3 o4 o5 o6 : Obj) : (((((((w.alloc o0).alloc o1).alloc o2).alloc o3).alloc o4).alloc o5).alloc o6).drew.heap[w.heap.size + 1 + 1 + 1]? = some o3 := by
  simp only [heap_drew, heap_alloc_if, alloc_size]
  rw [if_neg (by omega)]
  rw [if_neg (by omega)]
  rw [if_neg (by omega)]
  rw [if_pos trivial]
theorem at4 (w : World) (o0 o1 o2 o3 o4 o5 o6 : Obj) : (((((((w.alloc o0).alloc o1).alloc o2).alloc o3).alloc o4).alloc o5).alloc o6).drew.heap[w.heap.size + 1 + 1 + 1 + 1]? = some o4 := by
  simp only [heap_drew, heap_alloc_if, alloc_size]
  rw [if_neg (by omega)]
  rw [if_neg (by omega)]
  rw [if_pos trivial]
theorem at5 (w : World) (o0 o1 o2 o3 o4 o5 o6 : Obj) : (((((((w.alloc o0).alloc o1).alloc o2).alloc o3).alloc o4).alloc o5).alloc o6).drew.heap[w.heap.size + 1 + 1 + 1 + 1 + 1]? = some o5 := by
  simp only [heap_drew, heap_alloc_if, alloc_size]
  rw [if_neg (by omega)]
  rw [if_pos trivial]
theorem at6 (w : World) (o0 o1 o2 o3 o4 o5 o6 : Obj) : (((((((w.alloc o0).alloc o1).alloc o2).alloc o3).alloc o4).alloc o5).alloc o6).drew.heap[w.heap.size + 1 + 1 + 1 + 1 + 1 + 1]? = some o6 := by
  simp only [heap_drew, heap_alloc_if, alloc_size]
  rw [if_pos trivial]

theorem alR0_of (w0 : World) (ws : List Int) (T : Int) (wc : World) (ba bs bd gs gc go gd : Nat) (hn : ws.length ≤ maxLen)
    (h3 : wc.heap[bd]? = some (.cells #[.slice (some ⟨gd, 0, none⟩) ws.length ws.length] 54 (0, 0))) (h1 : wc.heap[ba]? = some (.cells #[.int .i64 T] 2 (0, 0))) (h2 : wc.heap[bs]? = some (.cells #[.slice (some ⟨gs, 0, none⟩) 0 0] 22 (0, 0)))
    (h4 : wc.heap[gs]? = some (.cells #[] 2 (0, 0))) (h5 : wc.heap[gc]? = some (.cells #[] 2 (0, 0))) (h6 : wc.heap[go]? = some (.cells #[] 2 (0, 0))) (h7 : wc.heap[gd]? = some (.cells (madeCells #[.bool false] ws.length) 4 (0, 0)))
    (hnd : [ba, bs, bd, gs, gc, go, gd].Nodup) (hlo : w0.heap.size ≤ ba ∧ w0.heap.size ≤ bs ∧ w0.heap.size ≤ bd ∧ w0.heap.size ≤ gs ∧ w0.heap.size ≤ gc ∧ w0.heap.size ≤ go ∧ w0.heap.size ≤ gd) (hb : Below w0.heap.size w0 wc) :
    AlR0 w0 ws T (.pointer (some ⟨ba, 0, none⟩)) (.pointer (some ⟨bs, 0, none⟩)) (.slice (some ⟨gc, 0, none⟩) 0 0) (.slice (some ⟨go, 0, none⟩) 0 0) (.pointer (some ⟨bd, 0, none⟩)) wc := by
  obtain ⟨l1, l2, l3, l4, l5, l6, l7⟩ := hlo
  refine ⟨ba, bs, bd, gs, gc, go, gd, 0, 0, 0, rfl, rfl, rfl, rfl, rfl, ⟨hnd, fun p hp => ?_⟩, hb⟩
  simp only [alL, List.mem_cons, List.not_mem_nil, or_false] at hp
  rcases hp with rfl | rfl | rfl | rfl | rfl | rfl | rfl
  · exact ⟨l1, _, h1, rfl⟩
  · exact ⟨l2, _, h2, rfl⟩
  · exact ⟨l3, _, h3, rfl⟩
  · exact ⟨l4, _, h4, #[], rfl, rfl, by simp [Al.begun], by simp [maxLen], by simp [Al.begun]⟩
  · exact ⟨l5, _, h5, #[], rfl, rfl, by simp [Al.begun], by simp [maxLen], by simp [Al.begun]⟩
  · exact ⟨l6, _, h6, #[], rfl, rfl, by simp [Al.begun], by simp [maxLen], by simp [Al.begun]⟩
  · refine ⟨l7, _, h7, _, rfl, size_madeCells _ _, by simp [Al.begun, Al.start], hn, ?_⟩
    rw [toList_madeCells_one]
    simp [Al.begun, Al.start]

theorem alShare {w wr : World} {ba bs bd gs gc go gd cs cc co k n : Nat} {T : Int} {s : Al.St} (h : Owns wr w.heap.size (alL ba bs bd gs gc go gd cs cc co n k n T s)) (hl : s.sh.length = k) (o : Obj) :
    (wr.alloc o).ownsRow w.heap.size 2 1 (.slice (some ⟨gs, 0, none⟩) k cs) k (s.sh.map (Value.int .i64)) := by
  have := (h.rowAt 3 rfl).1.alloc o
  simpa [hl] using this

theorem begun_sh (ws : List Int) (T : Int) (k k2 : Nat) (h : k ≤ ws.length) : (Al.begun ws T k k2).sh.length = k := by simp [Al.begun, Al.start]; omega
theorem begun_push (ws : List Int) (T x : Int) (k k2 : Nat) (h : k < ws.length) (hx : ws.getD k 0 = x) : (Al.begun ws T k k2).sh ++ [(ws.length : Int) * x] = (Al.begun ws T (k + 1) k2).sh := by
  have e : (Al.start ws T).sh.getD k 0 = (ws.length : Int) * x := by rw [← hx]; simp [Al.start, List.getD, h]
  show (Al.start ws T).sh.take k ++ [_] = (Al.start ws T).sh.take (k + 1)
  rw [take_snoc _ k (by simp [Al.start]; exact h), e]

theorem alPush {w wr w' : World} {ws : List Int} {ba bs bd gs gc go gd cs cc co k : Nat} {T x : Int} {o : Obj} (h : Owns wr w.heap.size (alL ba bs bd gs gc go gd cs cc co ws.length k ws.length T (Al.begun ws T k k))) (hb : Below w.heap.size w wr) (hk : k < ws.length) (hx : ws.getD k 0 = x) {v' : Value}
    (hown : w'.ownsRow w.heap.size 2 1 v' (k + 1) ((Al.begun ws T k k).sh.map (Value.int .i64) ++ [.int .i64 ((ws.length : Int) * x)])) (hgrow : (wr.alloc o).drew.grownBy w' (Value.ownBlock (.slice (some ⟨gs, 0, none⟩) k cs)))
    (hat : v'.ownBlock = Value.ownBlock (.slice (some ⟨gs, 0, none⟩) k cs) ∨ v'.ownBlock = some (wr.alloc o).drew.heap.size) :
    ∃ gs' cs', v' = .slice (some ⟨gs', 0, none⟩) (k + 1) cs' ∧ Owns w' w.heap.size ((alL ba bs bd gs gc go gd cs cc co ws.length k ws.length T (Al.begun ws T k k)).set 3 (gs', rowO 2 cs' ((Al.begun ws T (k + 1) k).sh.map (Value.int .i64)))) ∧ Below w.heap.size w w' := by
  obtain ⟨gs', cs', e, O⟩ := ((h.alloc o).drew).ap 3 rfl hown hgrow hat
  have hlo := (h.lt (p := (gs, rowO 2 cs ((Al.begun ws T k k).sh.map (Value.int .i64)))) (List.mem_of_getElem? (i := 3) rfl)).1
  refine ⟨gs', cs', e, ?_, ((hb.alloc hb.size o).drew).grown hgrow (by have := hb.size; simp only [heap_drew, alloc_size]; omega) (fun j hj => by simp [Value.ownBlock] at hj; omega)⟩
  rw [← begun_push ws T x k k hk hx]
  simpa using O

/-- The first append of the second statement: the cut. -/
theorem alPushC {w wr w' : World} {ws : List Int} {ba bs bd gs gc go gd cs cc co k : Nat} {T : Int} {o : Obj} (h : Owns wr w.heap.size (alL ba bs bd gs gc go gd cs cc co ws.length (k + 1) ws.length T (Al.begun ws T (k + 1) k))) (hb : Below w.heap.size w wr) (hk : k < ws.length) {v' : Value}
    (hown : w'.ownsRow w.heap.size 2 1 v' (k + 1) ((Al.begun ws T (k + 1) k).ct.map (Value.int .i64) ++ [.int .i64 T])) (hgrow : (wr.alloc o).grownBy w' (Value.ownBlock (.slice (some ⟨gc, 0, none⟩) k cc)))
    (hat : v'.ownBlock = Value.ownBlock (.slice (some ⟨gc, 0, none⟩) k cc) ∨ v'.ownBlock = some (wr.heap.size + 1)) :
    ∃ gc' cc', v' = .slice (some ⟨gc', 0, none⟩) (k + 1) cc' ∧ Owns w' w.heap.size ((alL ba bs bd gs gc go gd cs cc co ws.length (k + 1) ws.length T (Al.begun ws T (k + 1) k)).set 4 (gc', rowO 2 cc' ((Al.begun ws T (k + 1) (k + 1)).ct.map (Value.int .i64)))) ∧ Below w.heap.size w w' := by
  obtain ⟨gc', cc', e, O⟩ := (h.alloc o).ap 4 rfl hown hgrow (by rw [alloc_size]; exact hat)
  have hlo := (h.lt (p := (gc, rowO 2 cc ((Al.begun ws T (k + 1) k).ct.map (Value.int .i64)))) (List.mem_of_getElem? (i := 4) rfl)).1
  refine ⟨gc', cc', e, ?_, (hb.alloc hb.size o).grown hgrow (by have := hb.size; simp only [alloc_size]; omega) (fun j hj => by simp [Value.ownBlock] at hj; omega)⟩
  have e2 : (Al.begun ws T (k + 1) (k + 1)).ct = (Al.begun ws T (k + 1) k).ct ++ [T] := by
    show (Al.start ws T).ct.take (k + 1) = (Al.start ws T).ct.take k ++ [T]
    rw [take_snoc _ k (by simp [Al.start]; exact hk)]
    simp [Al.start, List.getD, hk]
  rw [e2]
  simpa using O

/-- The second append: the other face. -/
theorem alPushO {w wr w' : World} {ws : List Int} {ba bs bd gs gc go gd cs cc co k : Nat} {T : Int} {o : Obj} (h : Owns wr w.heap.size ((alL ba bs bd gs gc go gd cs cc co ws.length (k + 1) ws.length T (Al.begun ws T (k + 1) k)).set 4 (gc, rowO 2 cc ((Al.begun ws T (k + 1) (k + 1)).ct.map (Value.int .i64))))) (hb : Below w.heap.size w wr) (hk : k < ws.length) {v' : Value}
    (hown : w'.ownsRow w.heap.size 2 1 v' (k + 1) ((Al.begun ws T (k + 1) k).ot.map (Value.int .i64) ++ [.int .i64 (k : Nat)])) (hgrow : (wr.alloc o).grownBy w' (Value.ownBlock (.slice (some ⟨go, 0, none⟩) k co)))
    (hat : v'.ownBlock = Value.ownBlock (.slice (some ⟨go, 0, none⟩) k co) ∨ v'.ownBlock = some (wr.heap.size + 1)) :
    ∃ go' co', v' = .slice (some ⟨go', 0, none⟩) (k + 1) co' ∧ Owns w' w.heap.size (alL ba bs bd gs gc go' gd cs cc co' ws.length (k + 1) ws.length T (Al.begun ws T (k + 1) (k + 1))) ∧ Below w.heap.size w w' := by
  obtain ⟨go', co', e, O⟩ := (h.alloc o).ap 5 rfl hown hgrow (by rw [alloc_size]; exact hat)
  have hlo := (h.lt (p := (go, rowO 2 co ((Al.begun ws T (k + 1) k).ot.map (Value.int .i64)))) (List.mem_of_getElem? (i := 5) rfl)).1
  refine ⟨go', co', e, ?_, (hb.alloc hb.size o).grown hgrow (by have := hb.size; simp only [alloc_size]; omega) (fun j hj => by simp [Value.ownBlock] at hj; omega)⟩
  have e2 : (Al.begun ws T (k + 1) (k + 1)).ot = (Al.begun ws T (k + 1) k).ot ++ [((k : Nat) : Int)] := by
    show (Al.start ws T).ot.take (k + 1) = (Al.start ws T).ot.take k ++ [((k : Nat) : Int)]
    rw [take_snoc _ k (by simp [Al.start]; exact hk)]
    simp [Al.start, List.getD, hk]
  have O' := O
  rw [show ((Al.begun ws T (k + 1) k).ot.map (Value.int .i64) ++ [.int .i64 ((k : Nat) : Int)]) = (Al.begun ws T (k + 1) (k + 1)).ot.map (Value.int .i64) from by rw [e2]; simp] at O'
  exact O'

theorem begun_ct (ws : List Int) (T : Int) (k1 k : Nat) (h : k ≤ ws.length) : (Al.begun ws T k1 k).ct.length = k := by simp [Al.begun, Al.start]; omega
theorem begun_ot (ws : List Int) (T : Int) (k1 k : Nat) (h : k ≤ ws.length) : (Al.begun ws T k1 k).ot.length = k := by simp [Al.begun, Al.start]; omega
theorem own_n {w : World} {B T g c k : Nat} {xs : List Value} (h : w.ownsRow B T 1 (.slice (some ⟨g, 0, none⟩) xs.length c) xs.length xs) (hk : xs.length = k) : w.ownsRow B T 1 (.slice (some ⟨g, 0, none⟩) k c) k xs := by rwa [hk] at h

/-- The two lists that come back. -/
def RetAl (w : World) (ws : List Int) (T : Int) (e : Ending) (w' : World) : Prop :=
  ∃ gc go cc co, e = .returned (.tuple #[.slice (some ⟨gc, 0, none⟩) ws.length cc, .slice (some ⟨go, 0, none⟩) ws.length co]) ∧
    Owns w' w.heap.size [(gc, rowO 2 cc ((Al.run T ws.length (Al.start ws T)).ct.map (Value.int .i64))), (go, rowO 2 co ((Al.run T ws.length (Al.start ws T)).ot.map (Value.int .i64)))] ∧ Below w.heap.size w w'

set_option maxHeartbeats 1600000 in
theorem alias_any (a : Option Addr) (cap : Nat) (ws : List Int) (w : World) (hx : IsInts w a ws.length ws) (hn : ws.length ≤ 16) (hn1 : 1 ≤ ws.length) (h0 : ∀ x ∈ ws, 0 ≤ x ∧ x ≤ 1000000) (hs : sumL ws = ws.sum) (h1 : 1 ≤ ws.sum) (h2 : ws.sum ≤ 1000000) :
    Calls Try.prog 32 #[.slice a ws.length cap] w fun e w' => RetAl w ws (sumL ws) e w' := by
  have Hs := Lib.hid hs
  clear hs
  have hmk : ∀ wx : World, (Instr.makeSlice 54 (.int .i64 (ws.length : Int)) (.int .i64 (ws.length : Int))).run Try.prog wx = .ok (.slice (some ⟨wx.heap.size, 0, none⟩) ws.length ws.length) (wx.alloc (.cells (madeCells #[.bool false] ws.length) 4)) := by
    intro wx
    obtain ⟨i0, hi, hz0, hz1, hz2⟩ := info_parts Try.infoB
    have := run_make (P := Try.prog) wx 54 4 i0 (.bool false) Try.underlying54 hi hz0 .i64 .i64 ws.length ws.length (by omega) (by omega) (by rw [hz2]; omega) (by omega)
    rw [this]
    simp [hz1, Value.cells]
  go_enter Try.func32, Try.ntmps32
  go_wp2_with fail
  refine (totalOf_any _ _ _ ws _ (by omega) hx).mono ?_
  rintro e w' ⟨rfl, rfl⟩
  go_upto_region 2 with fail
  go_cut [4, 5, 6, 7, 8] (fun v4 v5 v6 v7 v8 wc => AlR0 w ws (sumL ws) v4 v5 v6 v7 v8 wc)
  case first =>
    go_region
    all_goals (try go_wp2_with fail)
    all_goals go_meet
    all_goals
      first | (refine alR0_of w ws _ _ _ _ _ w.heap.size _ _ (w.heap.size + 1 + 1 + 1) ?_ ?_ (at1 _ _ _ _ _ _ _ _) (at2 _ _ _ _ _ _ _ _) (at0 _ _ _ _ _ _ _ _) ?_ ?_ (at3 _ _ _ _ _ _ _ _) ?_ ?_ (below7 w _ _ _ _ _ _ _); (unfold maxLen; omega); (first | exact at4 _ _ _ _ _ _ _ _ | exact at5 _ _ _ _ _ _ _ _ | exact at6 _ _ _ _ _ _ _ _); (first | exact at4 _ _ _ _ _ _ _ _ | exact at5 _ _ _ _ _ _ _ _ | exact at6 _ _ _ _ _ _ _ _); (first | exact at4 _ _ _ _ _ _ _ _ | exact at5 _ _ _ _ _ _ _ _ | exact at6 _ _ _ _ _ _ _ _); (simp [Nat.add_assoc]); omega) | (refine alR0_of w ws _ _ _ _ _ w.heap.size _ _ (w.heap.size + 1 + 1 + 1 + 1) ?_ ?_ (at1 _ _ _ _ _ _ _ _) (at2 _ _ _ _ _ _ _ _) (at0 _ _ _ _ _ _ _ _) ?_ ?_ (at4 _ _ _ _ _ _ _ _) ?_ ?_ (below7 w _ _ _ _ _ _ _); (unfold maxLen; omega); (first | exact at3 _ _ _ _ _ _ _ _ | exact at5 _ _ _ _ _ _ _ _ | exact at6 _ _ _ _ _ _ _ _); (first | exact at3 _ _ _ _ _ _ _ _ | exact at5 _ _ _ _ _ _ _ _ | exact at6 _ _ _ _ _ _ _ _); (first | exact at3 _ _ _ _ _ _ _ _ | exact at5 _ _ _ _ _ _ _ _ | exact at6 _ _ _ _ _ _ _ _); (simp [Nat.add_assoc]); omega) | (refine alR0_of w ws _ _ _ _ _ w.heap.size _ _ (w.heap.size + 1 + 1 + 1 + 1 + 1) ?_ ?_ (at1 _ _ _ _ _ _ _ _) (at2 _ _ _ _ _ _ _ _) (at0 _ _ _ _ _ _ _ _) ?_ ?_ (at5 _ _ _ _ _ _ _ _) ?_ ?_ (below7 w _ _ _ _ _ _ _); (unfold maxLen; omega); (first | exact at3 _ _ _ _ _ _ _ _ | exact at4 _ _ _ _ _ _ _ _ | exact at6 _ _ _ _ _ _ _ _); (first | exact at3 _ _ _ _ _ _ _ _ | exact at4 _ _ _ _ _ _ _ _ | exact at6 _ _ _ _ _ _ _ _); (first | exact at3 _ _ _ _ _ _ _ _ | exact at4 _ _ _ _ _ _ _ _ | exact at6 _ _ _ _ _ _ _ _); (simp [Nat.add_assoc]); omega) | (refine alR0_of w ws _ _ _ _ _ w.heap.size _ _ (w.heap.size + 1 + 1 + 1 + 1 + 1 + 1) ?_ ?_ (at1 _ _ _ _ _ _ _ _) (at2 _ _ _ _ _ _ _ _) (at0 _ _ _ _ _ _ _ _) ?_ ?_ (at6 _ _ _ _ _ _ _ _) ?_ ?_ (below7 w _ _ _ _ _ _ _); (unfold maxLen; omega); (first | exact at3 _ _ _ _ _ _ _ _ | exact at4 _ _ _ _ _ _ _ _ | exact at5 _ _ _ _ _ _ _ _); (first | exact at3 _ _ _ _ _ _ _ _ | exact at4 _ _ _ _ _ _ _ _ | exact at5 _ _ _ _ _ _ _ _); (first | exact at3 _ _ _ _ _ _ _ _ | exact at4 _ _ _ _ _ _ _ _ | exact at5 _ _ _ _ _ _ _ _); (simp [Nat.add_assoc]); omega)
  case rest =>
    obtain ⟨ba, bs, bd, gs, gc, go, gd, cs, cc, co, rfl, rfl, rfl, rfl, rfl, hO, hb⟩ := hcut
    have hT1 : 1 ≤ sumL ws := by rw [Hs.out]; exact h1
    have hT2 : sumL ws ≤ 1000000 := by rw [Hs.out]; exact h2
    clear hmk h1 h2
    have hx0 := hx.below hb
    go_wp2
    go_loopg [24, 6, 7] (ws.length) (fun g i v6 v7 wr => ∃ k gs gc go cs cc co, k ≤ ws.length ∧ g = ws.length - k ∧ i = .int .i64 (k : Nat) ∧ v6 = .slice (some ⟨gc, 0, none⟩) k cc ∧ v7 = .slice (some ⟨go, 0, none⟩) k co ∧
      Owns wr w.heap.size (alL ba bs bd gs gc go gd cs cc co ws.length k ws.length (sumL ws) (Al.begun ws (sumL ws) k k)) ∧ Below w.heap.size w wr)
    case atStart => exact ⟨0, gs, gc, go, cs, cc, co, Nat.zero_le _, rfl, rfl, rfl, rfl, hO, hb⟩
    case round =>
      obtain ⟨k, gs, gc, go, cs, cc, co, hk, rfl, rfl, rfl, rfl, hO, hb⟩ := hrel
      have hxr := hx.below hb
      by_cases hlt : k < ws.length
      · obtain ⟨b, off, ha, h1⟩ := hxr.at hlt
        subst ha
        have hk0 : (0:Int) ≤ (k:Int) := by omega
        have hkl : (k:Int) < (ws.length:Int) := by omega
        have hw : 0 ≤ ws.getD k 0 ∧ ws.getD k 0 ≤ 1000000 := by rw [getD_eq _ _ hlt]; exact h0 _ (List.getElem_mem hlt)
        have hm0 : 0 ≤ (ws.length : Int) * ws.getD k 0 := Int.mul_nonneg (by omega) hw.1
        have hm1 : (ws.length : Int) * ws.getD k 0 ≤ 16000000 := by
          have : (ws.length : Int) * ws.getD k 0 ≤ 16 * ws.getD k 0 := Int.mul_le_mul_of_nonneg_right (by omega) hw.1
          omega
        obtain ⟨x, hxe⟩ : ∃ x, ws.getD k 0 = x := ⟨_, rfl⟩
        rw [hxe] at h1 hm0 hm1
        have HX := Lib.hid hxe
        clear hxe hw
        have HO := Lib.hid hO
        have Hb := Lib.hid hb
        clear hO hb hx0 hxr hT1 hT2
        go_upto_region 6 with fail
        go_cut [9] (fun v9 wc => v9 = .int .i64 (k : Nat) ∧ ∃ gs' cs', Owns wc w.heap.size (alL ba bs bd gs' gc go gd cs' cc co ws.length (k + 1) ws.length (sumL ws) (Al.begun ws (sumL ws) (k + 1) k)) ∧ Below w.heap.size w wc)
        case first =>
          have hbx := (HO.out.boxAt 1 rfl).1
          have hbx2 : ∀ o : Obj, (wr.alloc o).cell? ⟨bs, 0, none⟩ = some (.slice (some ⟨gs, 0, none⟩) k cs) := fun o => ((HO.out.alloc o).boxAt 1 rfl).1
          have hwr : IntKind.i64.wrap ((ws.length : Int) * x) = (ws.length : Int) * x := IntWalk.i64_in _ (by omega)
          go_region_law (first
            | (refine step_ap1 rfl (.tmp 29) (.tmp 34) 22 rfl w.heap.size 2 (.int .i64 0) 8 Try.underlying22 Try.infoI rfl _ k _ rfl (alShare HO.out (begun_sh ws _ k k hk) _).drew wr.heap.size (.int .i64 ((ws.length : Int) * x)) rfl (by go_simp) rfl (by omega) (by omega) (by have := Hb.out.size; simp only [heap_drew, alloc_size]; omega) ?_; intro v' w' hown hgrow hat; obtain ⟨gs', cs', rfl, O2, B2⟩ := alPush HO.out Hb.out hlt HX.out hown hgrow hat; clear hown hgrow hat; obtain ⟨q1, q2⟩ := O2.boxAt 1 rfl)
            | (go_simp; go_at_call 34; refine (length_any _ _ _ _).mono ?_; rintro e w' ⟨rfl, rfl⟩))
          all_goals (try go_wp2_with fail)
          all_goals go_meet
          all_goals exact ⟨rfl, gs', cs', O2.setBox 1 rfl _, B2.setCell (O2.lt (List.mem_of_getElem? (i := 1) rfl)).1 _⟩
        case rest =>
          obtain ⟨rfl, gs2, cs2, hO2, hb2⟩ := hcut
          have HO2 := Lib.hid hO2
          have Hb2 := Lib.hid hb2
          have hT := (hO2.boxAt 0 rfl).1
          clear hO2 hb2
          go_wp2_with (at_builtin; refine wpList_ap1 rfl (.tmp 36) (.tmp 38) 22 rfl w.heap.size 2 (.int .i64 0) 8 Try.underlying22 Try.infoI rfl _ k _ rfl (own_n ((HO2.out.alloc _).rowAt 4 rfl).1 (by simpa using begun_ct ws _ _ k hk)) wc.heap.size (.int .i64 (sumL ws)) rfl (by go_simp) rfl (by omega) (by omega) (by have := Hb2.out.size; simp only [alloc_size]; omega) ?_)
          intro v' w1 hown hgrow hat
          obtain ⟨gc2, cc2, rfl, O3, B3⟩ := alPushC HO2.out Hb2.out hlt hown hgrow hat
          have HO3 := Lib.hid O3
          have Hb3 := Lib.hid B3
          clear hown hgrow hat O3 B3 hT h1 hm0 hm1
          go_wp2_with (at_builtin; refine wpList_ap1 rfl (.tmp 40) (.tmp 42) 22 rfl w.heap.size 2 (.int .i64 0) 8 Try.underlying22 Try.infoI rfl _ k _ rfl (own_n ((HO3.out.alloc _).rowAt 5 rfl).1 (by simpa using begun_ot ws _ _ k hk)) w1.heap.size (.int .i64 (k : Nat)) rfl (by go_simp) rfl (by omega) (by omega) (by have := Hb3.out.size; simp only [alloc_size]; omega) ?_)
          intro v' w2 hown hgrow hat
          obtain ⟨go2, co2, rfl, O4, B4⟩ := alPushO HO3.out Hb3.out hlt hown hgrow hat
          clear hown hgrow hat
          have HO4 := Lib.hid O4
          have Hb4 := Lib.hid B4
          clear O4 B4
          go_wp2
          go_roundg (ws.length - (k + 1))
          case measure => omega
          case rel => exact ⟨k + 1, gs2, gc2, go2, cs2, cc2, co2, by omega, rfl, by go_num, rfl, rfl, HO4.out, Hb4.out⟩
      · have hkl : k = ws.length := by omega
        subst hkl
        have hI := Al.inv_start ws (sumL ws) hn h0 Hs.out.symm hT1 hT2
        have e0 : Al.begun ws (sumL ws) ws.length ws.length = Al.start ws (sumL ws) := by
          have e1 : (Al.start ws (sumL ws)).sh.take ws.length = (Al.start ws (sumL ws)).sh := List.take_of_length_le (by simp [Al.start])
          have e2 : (Al.start ws (sumL ws)).ct.take ws.length = (Al.start ws (sumL ws)).ct := List.take_of_length_le (by simp [Al.start])
          have e3 : (Al.start ws (sumL ws)).ot.take ws.length = (Al.start ws (sumL ws)).ot := List.take_of_length_le (by simp [Al.start])
          unfold Al.begun
          rw [e1, e2, e3]
        rw [e0] at hO
        have HO := Lib.hid hO
        have Hb := Lib.hid hb
        have HI := Lib.hid hI
        clear hO hb hx0 hxr hI e0
        go_wp2
        go_loopg [12] (ws.length) (fun g _ wr => ∃ s, Al.Inv ws.length (sumL ws) s ∧ Al.left s ≤ g ∧ Al.run (sumL ws) g s = Al.run (sumL ws) ws.length (Al.start ws (sumL ws)) ∧ Owns wr w.heap.size (alL ba bs bd gs gc go gd cs cc co ws.length ws.length ws.length (sumL ws) s) ∧ Below w.heap.size w wr)
        case atStart => exact ⟨_, HI.out, by rw [Al.left_start]; omega, rfl, HO.out, Hb.out⟩
        case round =>
          obtain ⟨s, hI, hleft, hrun, hO, hb⟩ := hrel
          cases hlow : Al.low (sumL ws) s with
          | none =>
            have HL := Lib.hid (And.intro hlow (And.intro hrun (And.intro hO (And.intro hb hI))))
            clear hlow hrun hO hb hI
            go_wp2_with fail
            refine (findLow_any _ _ _ _ _ _ _ _ _ _ _ _ _ _ _ s HL.out.2.2.1 HL.out.2.2.2.2.shl HL.out.2.2.2.2.dnl hn).mono ?_
            rintro e w' ⟨rfl, q, rfl⟩
            rw [HL.out.1]
            go_wp2
            go_ret2
            obtain ⟨hlow, hrun, hO, hb, hI⟩ := HL.out
            rw [Al.run_low_none hlow] at hrun
            refine ⟨gc, go, cc, co, rfl, ?_, bthen' hb (drewN_below _ _)⟩
            rw [← hrun]
            exact (hO.drewN q).sub (by unfold alL; exact .cons _ (.cons _ (.cons _ (.cons _ (.cons_cons _ (.cons_cons _ (.cons _ .slnil)))))))
          | some i =>
            obtain ⟨j, hhigh⟩ := Al.high_exists hI hlow
            obtain ⟨i1, i2, i3, _⟩ := Al.low_some hlow
            obtain ⟨j1, j2, j3, _⟩ := Al.high_some hhigh
            have hii := i1
            have hjj := j1
            rw [hI.shl] at hii hjj
            have hijn : i ≠ j := by rintro rfl; omega
            have hi0 := hI.sh0 i hii
            have hj1 := hI.sh1 j hjj
            obtain ⟨xi, hxi⟩ : ∃ x, s.sh.getD i 0 = x := ⟨_, rfl⟩
            obtain ⟨xj, hxj⟩ : ∃ x, s.sh.getD j 0 = x := ⟨_, rfl⟩
            rw [hxi] at i3 hi0
            rw [hxj] at j3 hj1
            have c1 := hO.intAt 3 rfl i (by rw [hI.shl]; exact hii)
            have c2 := hO.intAt 3 rfl j (by rw [hI.shl]; exact hjj)
            rw [hxi] at c1
            rw [hxj] at c2
            have HL := Lib.hid (And.intro hlow (And.intro hhigh (And.intro hrun (And.intro hO (And.intro hb (And.intro hI (And.intro hxi hxj)))))))
            have k1 : (0 : Int) ≤ (i : Int) := by omega
            have k2 : (i : Int) < (ws.length : Int) := by omega
            have k3 : (0 : Int) ≤ (j : Int) := by omega
            have k4 : (j : Int) < (ws.length : Int) := by omega
            clear hlow hhigh hrun hO hb hI hxi hxj i1 i2 j1 j2
            go_wp2_with fail
            refine (findLow_any _ _ _ _ _ _ _ _ _ _ _ _ _ _ _ s HL.out.2.2.2.1 HL.out.2.2.2.2.2.1.shl HL.out.2.2.2.2.2.1.dnl hn).mono ?_
            rintro e w' ⟨rfl, q, rfl⟩
            rw [HL.out.1]
            simp only [placeOf]
            go_wp2_with fail
            refine (findHigh_any _ _ _ _ _ _ _ _ _ _ _ _ _ _ _ s (HL.out.2.2.2.1.drewN q) HL.out.2.2.2.2.2.1.shl HL.out.2.2.2.2.2.1.dnl hn).mono ?_
            rintro e w' ⟨rfl, q2, rfl⟩
            rw [HL.out.2.1]
            simp only [placeOf]
            have hO2 := ((HL.out.2.2.2.1.drewN q).drewN q2)
            have hb2 := bthen' HL.out.2.2.2.2.1 (bthen (drewN_below wr q) (drewN_below _ q2))
            obtain ⟨wy, hwy⟩ : ∃ wy, wy = (wr.drewN q).drewN q2 := ⟨_, rfl⟩
            rw [← hwy] at hO2 hb2 ⊢
            clear hwy
            have b1 := (hO2.boxAt 1 rfl).1
            have b2 := (hO2.boxAt 2 rfl).1
            have hct := hO2.intAt 4 rfl i (by rw [HL.out.2.2.2.2.2.1.ctl]; exact hii)
            have hot := hO2.intAt 5 rfl i (by rw [HL.out.2.2.2.2.2.1.otl]; exact hii)
            have hdn := hO2.boolAt 6 rfl i (by rw [HL.out.2.2.2.2.2.1.dnl]; exact hii)
            have fct := hO2.frozenAt 4 rfl i
            have fot := hO2.frozenAt 5 rfl i
            have fdn := hO2.frozenAt 6 rfl i
            have c1 := hO2.intAt 3 rfl i (by rw [HL.out.2.2.2.2.2.1.shl]; exact hii)
            rw [HL.out.2.2.2.2.2.2.1] at c1
            have hnd := hO2.nd
            simp only [alL, List.map_cons, List.map_nil, List.nodup_cons, List.mem_cons, List.not_mem_nil, or_false, not_or] at hnd
            obtain ⟨_, _, _, ⟨n1, n2, n3⟩, ⟨n4, n5⟩, n6, _⟩ := hnd
            have HO2 := Lib.hid hO2
            have Hb2 := Lib.hid hb2
            clear hO2 hb2
            go_upto_region 14 with fail
            go_cut [12, 13] (fun v12 v13 wc => v12 = .int .i64 (i : Nat) ∧ v13 = .int .i64 (j : Nat) ∧ Owns wc w.heap.size (alL ba bs bd gs gc go gd cs cc co ws.length ws.length ws.length (sumL ws) ⟨s.sh, s.ct.set i xi, s.ot.set i (j : Nat), s.dn.set i true⟩) ∧ Below w.heap.size w wc)
            case first =>
              go_region
              all_goals (try go_wp2_with fail)
              all_goals go_meet
              all_goals
                have p1 : w.heap.size ≤ gc := (HO2.out.lt (List.mem_of_getElem? (i := 4) rfl)).1
                have p2 : w.heap.size ≤ go := (HO2.out.lt (List.mem_of_getElem? (i := 5) rfl)).1
                have p3 : w.heap.size ≤ gd := (HO2.out.lt (List.mem_of_getElem? (i := 6) rfl)).1
                exact ⟨rfl, rfl, (((HO2.out.setInt 4 rfl i xi).setInt 5 rfl i (j : Nat)).setBool 6 rfl i true).drew, (((Hb2.out.setCell (p := ⟨gc, i, none⟩) p1 _).setCell (p := ⟨go, i, none⟩) p2 _).setCell (p := ⟨gd, i, none⟩) p3 _).drew⟩
            case rest =>
              obtain ⟨rfl, rfl, hO3, hb3⟩ := hcut
              clear b1 b2 hct hot hdn fct fot fdn c1 c2 HO2 Hb2 n1 n2 n3 n4 n5 n6
              have b0 := (hO3.boxAt 0 rfl).1
              have b1 := (hO3.boxAt 1 rfl).1
              have c1 := hO3.intAt 3 rfl i (by rw [HL.out.2.2.2.2.2.1.shl]; exact hii)
              have c2 := hO3.intAt 3 rfl j (by rw [HL.out.2.2.2.2.2.1.shl]; exact hjj)
              have f2 := hO3.frozenAt 3 rfl j
              simp only at c1 c2
              rw [HL.out.2.2.2.2.2.2.1] at c1
              rw [HL.out.2.2.2.2.2.2.2] at c2
              have w1 : IntKind.i64.wrap (sumL ws - xi) = sumL ws - xi := IntWalk.i64_in _ (by omega)
              have w2 : IntKind.i64.wrap (xj - (sumL ws - xi)) = xj - (sumL ws - xi) := IntWalk.i64_in _ (by omega)
              have HO3 := Lib.hid hO3
              have Hb3 := Lib.hid hb3
              clear hO3 hb3
              go_wp2_with fail
              go_region
              all_goals (try go_wp2_with fail)
              all_goals
                have p0 : w.heap.size ≤ gs := (HO3.out.lt (List.mem_of_getElem? (i := 3) rfl)).1
                obtain ⟨hlow, hhigh, hrun, _, _, hI, e1, e2⟩ := HL.out
                have hnl := Al.left_next (j := j) hI hlow
                obtain ⟨g', hg'⟩ : ∃ g', gk = g' + 1 := ⟨gk - 1, by omega⟩
                go_roundg g'
                case measure => omega
                case rel =>
                  refine ⟨Al.next (sumL ws) s i j, Al.inv_next hI hlow hhigh, by omega, ?_, ?_, (Hb3.out.setCell (p := ⟨gs, j, none⟩) p0 _).drew⟩
                  · rw [← hrun, hg', Al.run_step hlow hhigh]
                  · have e : Al.next (sumL ws) s i j = ⟨s.sh.set j (xj - (sumL ws - xi)), s.ct.set i xi, s.ot.set i (j : Nat), s.dn.set i true⟩ := by
                      unfold Al.next
                      rw [e1, e2]
                    rw [e]
                    exact (HO3.out.setInt 3 rfl j (xj - (sumL ws - xi))).drew

end Go.Proofs.Ytfageonhlmhhpaa

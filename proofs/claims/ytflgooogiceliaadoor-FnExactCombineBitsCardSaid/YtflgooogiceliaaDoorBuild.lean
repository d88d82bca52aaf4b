import Derived.Test.YtflgooogiceliaaDoorSrc
import Derived.Test.YtflgooogiceliaaDoorShelf
import Derived.Laws.BytesArg
import Derived.Lib.Builder
import Derived.Lib.UnsafeStr
/- A strings.Builder that a call has made: writing a byte, its text. Condition: fewer than 2^40 bytes. -/
namespace Go.Proofs.YtflgooogiceliaaDoor
open Go.RowKit
set_option linter.unusedVariables false

theorem Tryd.infoB1 : (Tryd.prog.info? 5).map (fun i => (i.zero, i.size, i.bytes)) = some (some (.int .u8 0), 1, 1) := by kernel_rfl
theorem Tryd.infoBuilder : (Tryd.prog.info? 71).map (·.size) = some 2 := by kernel_rfl
theorem Tryd.liesBuilder : liesAt Tryd.prog Tryd.prog.depth 71 (2 / Tryd.prog.cellsOf 71) 0 71 1 = true := by kernel_rfl
/-- The builder's own block: where it lies itself once it was written, and its bytes. -/
def bldO (p v : Value) (o : Obj) : Prop := o = .cells #[p, v] 71 (0, 0)
def bldL (b : Nat) : Option (Nat × Nat) → List Int → List (Nat × (Obj → Prop))
  | none, _ => [(b, bldO (.pointer none) (.slice none 0 0))]
  | some (g, c), xs => [(b, bldO (.pointer (some ⟨b, 0, none⟩)) (.slice (some ⟨g, 0, none⟩) xs.length c)), (g, rowO 5 c (xs.map (Value.int .u8)))]
/-- The builder b holds the bytes xs; besides, rest is owned. -/
def Bd (w0 w : World) (b : Nat) (xs : List Int) (rest : List (Nat × (Obj → Prop))) : Prop :=
  (xs = [] ∧ OwnAt w0 w (bldL b none [] ++ rest)) ∨ (xs ≠ [] ∧ ∃ g c, OwnAt w0 w (bldL b (some (g, c)) xs ++ rest))
theorem Bd.start {w0 w : World} {rest : List (Nat × (Obj → Prop))} (h : OwnAt w0 w rest) : Bd w0 (w.alloc (.cells #[.pointer none, .slice none 0 0] 71)) w.heap.size [] rest :=
  Or.inl ⟨rfl, h.new rfl⟩
theorem Bd.ret {w0 w w' : World} {b : Nat} {xs : List Int} {rest : List (Nat × (Obj → Prop))} (h : Bd w0 w b xs rest) (hb : Below w.heap.size w w') : Bd w0 w' b xs rest := by
  rcases h with ⟨h0, h⟩ | ⟨h0, g, c, h⟩
  · exact Or.inl ⟨h0, h.ret hb⟩
  · exact Or.inr ⟨h0, g, c, h.ret hb⟩
theorem Bd.drewN {w0 w : World} {b : Nat} {xs : List Int} {rest : List (Nat × (Obj → Prop))} (h : Bd w0 w b xs rest) (n : Nat) : Bd w0 (w.drewN n) b xs rest := h.ret (drewN_below _ _)
theorem Bd.below {w0 w : World} {b : Nat} {xs : List Int} {rest : List (Nat × (Obj → Prop))} (h : Bd w0 w b xs rest) : Below w0.heap.size w0 w := by
  rcases h with ⟨_, h⟩ | ⟨_, g, c, h⟩
  · exact h.2
  · exact h.2
theorem bldL_cells {w : World} {B b : Nat} {p v : Value} {l : List (Nat × (Obj → Prop))} (h : Owns w B ((b, bldO p v) :: l)) : w.heap[b]? = some (.cells #[p, v] 71 (0, 0)) ∧ B ≤ b := by
  obtain ⟨hB, o, ho, hφ⟩ := h.holds _ List.mem_cons_self
  have e : o = .cells #[p, v] 71 (0, 0) := hφ
  subst e
  exact ⟨ho, hB⟩
theorem bldL_set {w0 w : World} {b : Nat} {p v q u : Value} {l : List (Nat × (Obj → Prop))} {j : Nat} (h : OwnAt w0 w ((b, bldO p v) :: l)) (x : Value)
    (hj : #[p, v].setIfInBounds j x = #[q, u]) : OwnAt w0 (w.setCell ⟨b, j, none⟩ x) ((b, bldO q u) :: l) := by
  obtain ⟨ho, hB⟩ := bldL_cells h.1
  have h1 := h.1.upd (i := 0) rfl (grownBy_setCell w ⟨b, j, none⟩ x) (Or.inl rfl) hB (heap_setCell_same w b j #[p, v] 71 x ho) (ψ := bldO q u) (by unfold bldO; rw [← hj])
  exact ⟨h1, h.2.setCell (p := ⟨b, j, none⟩) hB _⟩
set_option maxRecDepth 100000 in
theorem copyCheck_used (b : Nat) (w : World) (h0 : w.cell? ⟨b, 0, none⟩ = some (.pointer (some ⟨b, 0, none⟩))) :
    Calls Tryd.prog 96 #[.pointer (some ⟨b, 0, none⟩)] w fun e w' => e = .returned (.tuple #[]) ∧ w' = w := by
  obtain ⟨j, hj, _⟩ := Option.map_eq_some_iff.1 Tryd.infoBuilder
  have HN := Lib.hid (Lib.run_neq_ptr_same (P := Tryd.prog) w ⟨b, 0, none⟩ Tryd.underlying69 hj)
  go_enter Tryd.func96, Tryd.ntmps96
  go_wp2
  rw [HN.out]
  go_wp2
  go_end0
  exact ⟨rfl, rfl⟩
set_option maxRecDepth 100000 in
theorem copyCheck_fresh (b : Nat) (w : World) (h0 : w.cell? ⟨b, 0, none⟩ = some (.pointer none)) (hsh : w.shape? b = some (71, 2)) (hfz : w.frozen? ⟨b, 0, none⟩ = false) :
    Calls Tryd.prog 96 #[.pointer (some ⟨b, 0, none⟩)] w fun e w' => e = .returned (.tuple #[]) ∧ w' = w.setCell ⟨b, 0, none⟩ (.pointer (some ⟨b, 0, none⟩)) := by
  obtain ⟨j, hj, hjs⟩ := Option.map_eq_some_iff.1 Tryd.infoBuilder
  have H1 := Lib.hid (Lib.run_to_unsafe (P := Tryd.prog) w ⟨b, 0, none⟩ Tryd.underlying69 Tryd.underlying112 hj (by rw [hjs]; decide) hsh (Nat.zero_lt_succ 1))
  have H2 := Lib.hid (Lib.run_from_unsafe (P := Tryd.prog) w ⟨b, 0, none⟩ Tryd.underlying112 Tryd.underlying69 hj hsh Tryd.liesBuilder)
  clear hsh hj hjs
  go_enter Tryd.func96, Tryd.ntmps96
  go_wp2
  rw [H1.out]
  simp only [Result.andThen]
  rw [Oper.upon_value]
  go_wp2
  rw [run_callFunc_extern Tryd.func116 (by kernel_rfl) (by kernel_rfl) (by kernel_rfl) (e := Extern.AbiNoEscape.same) (by kernel_rfl)]
  rw [Lib.run_noEscape]
  simp only [Result.andThen]
  rw [Oper.upon_value]
  go_wp2
  rw [H2.out]
  simp only [Result.andThen]
  rw [Oper.upon_value]
  go_wp2
  go_end0
  exact ⟨rfl, rfl⟩
set_option maxHeartbeats 1600000 in
theorem writeByte_any (b : Nat) (xs : List Int) (rest : List (Nat × (Obj → Prop))) (x : Int) (w0 w : World) (h : Bd w0 w b xs rest) (hn : xs.length < 1099511627776) :
    Calls Tryd.prog 70 #[.pointer (some ⟨b, 0, none⟩), .int .u8 x] w fun e w' => e = .returned .nilIface ∧ Bd w0 w' b (xs ++ [x]) rest := by
  rcases h with ⟨rfl, h⟩ | ⟨h0, g, c, h⟩
  · obtain ⟨ho, hB⟩ := bldL_cells h.1
    have q0 : w.cell? ⟨b, 0, none⟩ = some (.pointer none) := by simp [World.cell?, ho]
    have f0 : w.frozen? ⟨b, 0, none⟩ = false := by simp [World.frozen?, ho]
    have HC := Lib.hid (copyCheck_fresh b w q0 (by simp [World.shape?, ho]) f0)
    have h1 : OwnAt w0 (w.setCell ⟨b, 0, none⟩ (.pointer (some ⟨b, 0, none⟩))) ((b, bldO (.pointer (some ⟨b, 0, none⟩)) (.slice none 0 0)) :: rest) := bldL_set h _ rfl
    clear q0 f0 ho h
    obtain ⟨w1, hw1⟩ : ∃ w1 : World, w1 = w.setCell ⟨b, 0, none⟩ (.pointer (some ⟨b, 0, none⟩)) := ⟨_, rfl⟩
    rw [← hw1] at HC h1
    clear hw1
    obtain ⟨ho, _⟩ := bldL_cells h1.1
    have q1 : w1.cell? ⟨b, 1, none⟩ = some (.slice none 0 0) := by simp [World.cell?, ho]
    have hs1 := h1.2.size
    have H1 := Lib.hid h1
    have hnil : (w1.alloc (.cells #[.int .u8 x] 5)).ownsRow w0.heap.size 5 1 (.slice none 0 0) 0 [] := ⟨rfl, Or.inl ⟨rfl, rfl⟩⟩
    have Hnil := Lib.hid hnil
    clear h1 ho hnil
    go_enter Tryd.func70, Tryd.ntmps70
    go_wp2_with fail
    refine HC.out.mono ?_
    rintro e w' ⟨rfl, rfl⟩
    go_wp2_with (at_builtin; refine wpList_ap1 rfl (.tmp 11) (.tmp 13) 37 rfl w0.heap.size 5 (.int .u8 0) 1 Tryd.underlying37 Tryd.infoB1 rfl _ 0 _ rfl Hnil.out w'.heap.size (.int .u8 x) rfl (by go_simp) rfl (by omega) (by omega) (by simp only [alloc_size]; omega) ?_)
    intro v' w6 hown hgrow hat
    obtain ⟨a6, c6, rfl⟩ : ∃ g6 c6, v' = .slice (some ⟨g6, 0, none⟩) 1 c6 := by
      rcases hown.2 with ⟨_, e0⟩ | ⟨g6, c6, cur, e, _⟩
      · omega
      · exact ⟨g6, c6, e⟩
    have hbw : Below w'.heap.size w' w6 := ((Below.refl _ w').alloc (Nat.le_refl _) _).grown hgrow (by simp only [alloc_size]; omega) (fun k hk => by cases hk)
    have hat6 : a6 = w'.heap.size + 1 := by
      rcases hat with e | e
      · cases e
      · simp only [Value.ownBlock, Option.some.injEq] at e; omega
    subst hat6
    have hrow : Owns w6 w'.heap.size [(w'.heap.size + 1, rowO 5 c6 ([x].map (Value.int .u8)))] := by
      have hr := Owns.ofRow hown
      refine ⟨hr.nd, fun p hp => ?_⟩
      obtain ⟨_, r⟩ := hr.holds p hp
      rw [List.mem_singleton] at hp
      subst hp
      exact ⟨by show _ ≤ _ + 1; omega, r⟩
    have hj := H1.out.1.join hbw H1.out.2.size hrow
    have hO : OwnAt w0 w6 ((b, bldO (.pointer (some ⟨b, 0, none⟩)) (.slice none 0 0)) :: (w'.heap.size + 1, rowO 5 c6 ([x].map (Value.int .u8))) :: rest) := ⟨hj.perm (List.Perm.swap _ _ _), bthen H1.out.2 hbw⟩
    obtain ⟨ho, hB⟩ := bldL_cells hO.1
    have f1 : w6.frozen? ⟨b, 1, none⟩ = false := by simp [World.frozen?, ho]
    have q2 : (w6.cell? ⟨b, 1, none⟩).isSome = true := by simp [World.cell?, ho]
    have q3 : w6.cell? ⟨b, 1, none⟩ = some (.slice none 0 0) := by simp [World.cell?, ho]
    have HF := Lib.hid (bldL_set (q := .pointer (some ⟨b, 0, none⟩)) (u := .slice (some ⟨w'.heap.size + 1, 0, none⟩) 1 c6) (j := 1) hO (.slice (some ⟨w'.heap.size + 1, 0, none⟩) 1 c6) rfl)
    clear hown hgrow hat hrow hj hO ho hbw
    go_wp2
    go_ret
    exact ⟨rfl, Or.inr ⟨by simp, _, _, HF.out⟩⟩
  · obtain ⟨ho, hB⟩ := bldL_cells h.1
    have q0 : w.cell? ⟨b, 0, none⟩ = some (.pointer (some ⟨b, 0, none⟩)) := by simp [World.cell?, ho]
    have q1 : w.cell? ⟨b, 1, none⟩ = some (.slice (some ⟨g, 0, none⟩) xs.length c) := by simp [World.cell?, ho]
    have HC := Lib.hid (copyCheck_used b w q0)
    have hs1 := h.2.size
    have hrow := ((h.1.alloc (.cells #[.int .u8 x] 5)).rowAt 1 rfl).1
    rw [List.length_map] at hrow
    have Hrow := Lib.hid hrow
    have H := Lib.hid h
    clear h ho hrow q0
    go_enter Tryd.func70, Tryd.ntmps70
    go_wp2_with fail
    refine HC.out.mono ?_
    rintro e w' ⟨rfl, rfl⟩
    go_wp2_with (at_builtin; refine wpList_ap1 rfl (.tmp 11) (.tmp 13) 37 rfl w0.heap.size 5 (.int .u8 0) 1 Tryd.underlying37 Tryd.infoB1 rfl _ xs.length _ rfl Hrow.out w'.heap.size (.int .u8 x) rfl (by go_simp) rfl (by omega) (by omega) (by simp only [alloc_size]; omega) ?_)
    intro v' w6 hown hgrow hat
    obtain ⟨g2, c2, rfl, O2⟩ := (H.out.1.alloc (.cells #[.int .u8 x] 5)).ap 1 rfl hown hgrow (by rw [alloc_size]; exact hat)
    have hb6 : Below w0.heap.size w0 w6 := (H.out.2.alloc hs1 _).grown hgrow (by simp only [alloc_size]; omega) (fun j hj => by
      have := (H.out.1.lt (List.mem_of_getElem? (i := 1) rfl)).1
      simp [Value.ownBlock] at hj; simp at this; omega)
    have hO : OwnAt w0 w6 ((b, bldO (.pointer (some ⟨b, 0, none⟩)) (.slice (some ⟨g, 0, none⟩) xs.length c)) :: (g2, rowO 5 c2 ((xs ++ [x]).map (Value.int .u8))) :: rest) := ⟨by rw [List.map_append]; exact O2, hb6⟩
    obtain ⟨ho, hB⟩ := bldL_cells hO.1
    have f1 : w6.frozen? ⟨b, 1, none⟩ = false := by simp [World.frozen?, ho]
    have q3 : w6.cell? ⟨b, 1, none⟩ = some (.slice (some ⟨g, 0, none⟩) xs.length c) := by simp [World.cell?, ho]
    have HF := Lib.hid (bldL_set (q := .pointer (some ⟨b, 0, none⟩)) (u := .slice (some ⟨g2, 0, none⟩) (xs.length + 1) c2) (j := 1) hO (.slice (some ⟨g2, 0, none⟩) (xs.length + 1) c2) rfl)
    clear hown hgrow hat hO ho hb6 O2
    go_wp2
    go_ret
    refine ⟨rfl, Or.inr ⟨by simp, g2, c2, ?_⟩⟩
    have e : (xs ++ [x]).length = xs.length + 1 := by simp
    show OwnAt w0 _ ((b, bldO (.pointer (some ⟨b, 0, none⟩)) (.slice (some ⟨g2, 0, none⟩) (xs ++ [x]).length c2)) :: (g2, rowO 5 c2 ((xs ++ [x]).map (Value.int .u8))) :: rest)
    rw [e]
    exact HF.out
/-- A text is read off a row: the row is given up, all else stays. -/
theorem grownBy_freeze (w : World) (g n : Nat) : w.grownBy (w.freeze ⟨g, 0, none⟩ n) (some g) := by
  unfold World.freeze
  split
  · exact World.grownBy.refl _ _
  · exact ⟨rfl, rfl, rfl, by simp, fun k hk hne => by
      simp only [Array.getElem?_modify]
      rw [if_neg (fun e => hne (by rw [← e]))]⟩
theorem own_drop {w w' : World} {B g : Nat} {φ : Obj → Prop} {l : List (Nat × (Obj → Prop))} (h : Owns w B ((g, φ) :: l)) (hg : w.grownBy w' (some g)) : Owns w' B l := by
  refine ⟨(List.nodup_cons.1 (by simpa using h.nd)).2, fun p hp => ?_⟩
  obtain ⟨hB, o, ho, hφ⟩ := h.holds p (List.mem_cons_of_mem _ hp)
  refine ⟨hB, o, (hg.block _ (lt_of_heap ho) ?_).trans ho, hφ⟩
  have hn := (List.nodup_cons.1 (by simpa using h.nd : (g :: l.map Prod.fst).Nodup)).1
  intro e
  simp only [Option.some.injEq] at e
  exact hn (List.mem_map.2 ⟨p, hp, e⟩)
def numOk (xs : List Int) : Prop := ∀ x ∈ xs, 0 ≤ x ∧ x ≤ 255
theorem u8_back {x : Int} (h : 0 ≤ x ∧ x ≤ 255) : ((UInt8.ofNat x.toNat).toNat : Int) = x := by
  have : x.toNat < 256 := by omega
  rw [UInt8.toNat_ofNat_of_lt' (by show _ < 256; omega)]
  omega
set_option maxHeartbeats 1600000 in
set_option maxRecDepth 100000 in
theorem builderText_any (b : Nat) (xs : List Int) (rest : List (Nat × (Obj → Prop))) (w0 w : World) (h : Bd w0 w b xs rest) (hx : numOk xs) (hn : xs.length < 1099511627776) :
    Calls Tryd.prog 71 #[.pointer (some ⟨b, 0, none⟩)] w fun e w' => e = .returned (.string (strOfNums xs)) ∧ OwnAt w0 w' rest := by
  rcases h with ⟨rfl, h⟩ | ⟨h0, g, c, h⟩
  · obtain ⟨ho, hB⟩ := bldL_cells h.1
    have c1 : w.drew.cell? ⟨b, 1, none⟩ = some (.slice none 0 0) := by
      have : w.drew.heap[b]? = some (.cells #[.pointer none, .slice none 0 0] 71 (0, 0)) := ho
      simp [World.cell?, this]
    have hSD : (Builtin.unsafeSliceData_ #[37] 97 #[.slice none 0 0]).run Tryd.prog w.drew = .ok (.pointer none) w.drew := rfl
    have hUS : (Builtin.unsafeString_ #[97, 3] 9 #[.pointer none, .int .i64 0]).run Tryd.prog w.drew = .ok (.string .empty) w.drew := Lib.run_unsafeString_none w.drew _ _ _ none
    have HO : Hid (OwnAt w0 w.drew rest) := Lib.hid ⟨(h.1.sub (List.sublist_cons_self _ _)).drew, h.2.drew⟩
    clear h ho
    go_enter Tryd.func71, Tryd.ntmps71
    go_wp2
    go_region
    all_goals
      go_wp2
      go_ret
      exact ⟨rfl, HO.out⟩
  · obtain ⟨ho, hB⟩ := bldL_cells h.1
    obtain ⟨hgB, o, hg, cur, rfl, hcs, hcl, hcm, hct⟩ := h.1.holds (g, rowO 5 c (xs.map (Value.int .u8))) (by simp [bldL])
    simp only at hg hgB
    rw [List.length_map] at hcl hct
    have hl0 : xs.length ≠ 0 := by simpa using h0
    have c1 : w.drew.cell? ⟨b, 1, none⟩ = some (.slice (some ⟨g, 0, none⟩) xs.length c) := by
      have : w.drew.heap[b]? = some (.cells #[.pointer (some ⟨b, 0, none⟩), .slice (some ⟨g, 0, none⟩) xs.length c] 71 (0, 0)) := ho
      simp [World.cell?, this]
    have hSD : (Builtin.unsafeSliceData_ #[37] 97 #[.slice (some ⟨g, 0, none⟩) xs.length c]).run Tryd.prog w.drew = .ok (.pointer (some ⟨g, 0, none⟩)) w.drew := Lib.run_unsafeSliceData_row _ _ _ _ _ _ (by omega)
    have hUS : (Builtin.unsafeString_ #[97, 3] 9 #[.pointer (some ⟨g, 0, none⟩), .int .i64 xs.length]).run Tryd.prog w.drew = .ok (.string (strOfNums xs)) (w.drew.freeze ⟨g, 0, none⟩ xs.length) := by
      have e : (xs.map fun n => UInt8.ofNat n.toNat).length = xs.length := by simp
      have := Lib.run_unsafeString_row (P := Tryd.prog) w.drew 97 3 9 5 Tryd.underlying97 (by kernel_rfl) g cur.size (by have hg' : w.drew.heap[g]? = some (.cells cur 5 (0, 0)) := hg; simp [World.shape?, hg']) (xs.map fun n => UInt8.ofNat n.toNat) (by simpa using h0) (by rw [e]; omega) (by rw [e]; omega) ?_
      · rw [e] at this
        exact this
      · intro j x hj
        obtain ⟨y, hy, rfl⟩ : ∃ y, xs[j]? = some y ∧ UInt8.ofNat y.toNat = x := by
          rw [List.getElem?_map] at hj
          cases hyy : xs[j]? with
          | none => rw [hyy] at hj; cases hj
          | some y => rw [hyy] at hj; exact ⟨y, rfl, by simpa using hj⟩
        have hjl : j < xs.length := (List.getElem?_eq_some_iff.1 hy).1
        rw [u8_back (hx y (List.mem_of_getElem? hy))]
        have hcell := (h.1.drew).cellAt 1 (g := g) (e := 5) (cap := c) (xs := xs.map (Value.int .u8)) rfl j (by simpa using hjl)
        have ha : (⟨g, 0, none⟩ : Addr).add j = ⟨g, j, none⟩ := by
          unfold Addr.add; split
          · rename_i e; subst e; rfl
          · simp
        rw [ha, hcell]
        simp [hy]
    have HO : Hid (OwnAt w0 (w.drew.freeze ⟨g, 0, none⟩ xs.length) rest) := Lib.hid (by
      have h1 : Owns w.drew w0.heap.size ((g, rowO 5 c (xs.map (Value.int .u8))) :: rest) := (h.1.sub (List.sublist_cons_self _ _)).drew
      exact ⟨own_drop h1 (grownBy_freeze _ _ _), Lib.below_freeze h.2.drew hgB _⟩)
    clear h ho hg hct hcs hcl
    go_enter Tryd.func71, Tryd.ntmps71
    go_wp2
    go_region
    all_goals
      go_wp2
      go_ret
      exact ⟨rfl, HO.out⟩
end Go.Proofs.YtflgooogiceliaaDoor

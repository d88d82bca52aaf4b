import Derived.Test.YthjndfbjalkckaaDoorRdW
import Derived.Test.YthjndfbjalkckaaDoorRdG
import Derived.Test.YthjndfbjalkckaaDoorChoo
/- Reading lists of numbers: program and reference. Conditions: the tables and the two errors are laid; the text has at most 2 ^ 20 bytes. -/
namespace Go.Proofs.YthjndfbjalkckaaDoor
open Go.RowKit
set_option linter.unusedVariables false

/-- A list of numbers, or none. -/
def RetN (w : World) (o : Option (List Int)) (e : Ending) (w' : World) : Prop := match o with
  | none => e = .returned (.tuple #[.slice none 0 0, .bool false]) ∧ Below w.heap.size w w'
  | some zs => ∃ a c, e = .returned (.tuple #[.slice a zs.length c, .bool true]) ∧ IsInts w' a zs.length zs ∧ Below w.heap.size w w' ∧ zs.length ≤ 64
theorem RetN.none {w w' : World} {o : Option (List Int)} (h : o = none) (hb : Below w.heap.size w w') : RetN w o (.returned (.tuple #[.slice none 0 0, .bool false])) w' := by
  subst h; exact ⟨rfl, hb⟩
theorem RetN.some {w w' : World} {o : Option (List Int)} {zs : List Int} {a : Option Addr} {n c : Nat} (h : o = some zs) (hn : zs.length = n) (hl : zs.length ≤ 64) (hx : IsInts w' a n zs) (hb : Below w.heap.size w w') : RetN w o (.returned (.tuple #[.slice a n c, .bool true])) w' := by
  subst h hn; exact ⟨a, c, rfl, hx, hb, hl⟩
theorem goV_full {acc : List Int} {w : List UInt8} {ws : List (List UInt8)} (h : acc.length = 64) : goV acc (w :: ws) = none := by
  rw [goV]
  cases rdL w with
  | none => rfl
  | some n => exact if_pos h
theorem goV_push {acc : List Int} {w : List UInt8} {ws : List (List UInt8)} {n : Int} (h : rdL w = some n) (hl : acc.length ≠ 64) : goV acc (w :: ws) = goV (acc ++ [n]) ws := by rw [goV_some h, if_neg hl]
theorem spA_len : ∀ (l cur x : List UInt8), x ∈ spA cur l → x.length ≤ cur.length + l.length
  | [], cur, x, h => by simp [spA] at h; subst h; simp
  | c :: l, cur, x, h => by
    rw [spA] at h
    split at h
    · rcases List.mem_cons.1 h with h | h
      · subst h; simp
      · have := spA_len l [] x h; simp at this ⊢; omega
    · have := spA_len l (cur ++ [c]) x h; simp at this ⊢; omega
/-- The words of a text. -/
def wdB (s : ByteArray) : List ByteArray := Lib.splitB { data := #[44] } 0 (Lib.countB s { data := #[44] }) s
theorem wdB_data (s : ByteArray) : (wdB s).map (fun b => b.data.toList) = spA [] s.data.toList := by
  unfold wdB
  rw [Lib.splitB_data, ← split_spA]
theorem wdB_len (s : ByteArray) : (wdB s).length = Lib.countB s { data := #[44] } + 1 := Lib.splitB_all { data := #[44] } (by decide) 0 _ s rfl
theorem wdB_size {s : ByteArray} {x : ByteArray} (h : x ∈ wdB s) : x.size ≤ s.size := by
  have h1 : x.data.toList ∈ spA [] s.data.toList := by rw [← wdB_data]; exact List.mem_map_of_mem h
  have := spA_len _ _ _ h1
  rw [size_list, size_list] at this
  simpa using this
/-- The list that is read so far, and the words. -/
def LsA (w0 wr : World) (g c : Nat) (zs : List Int) (bw cw : Nat) (W : List ByteArray) : Prop := Owns wr w0.heap.size [(g, rowO 2 c (zs.map (Value.int .i64))), (bw, rowO 9 cw (W.map Value.string))] ∧ Below w0.heap.size w0 wr
theorem LsA.start (w : World) (W : List ByteArray) (hW : W.length ≤ 4294967296) : LsA w ((w.alloc (.cells #[] 2)).alloc (.cells ((W.map Value.string).toArray) 9)) w.heap.size 0 [] (w.heap.size + 1) W.length W := by
  have h1 := (Owns.nil w w.heap.size).new (Nat.le_refl _) (o := .cells #[] 2) (φ := rowO 2 0 (([] : List Int).map (Value.int .i64))) ⟨#[], rfl, rfl, Nat.le_refl _, by simp [maxLen], rfl⟩
  have h2 := h1.new (by simp) (o := .cells ((W.map Value.string).toArray) 9) (φ := rowO 9 W.length (W.map Value.string)) ⟨_, rfl, by simp, by simp, by simp [maxLen]; omega, by rw [List.length_map, ← List.length_map (f := Value.string)]; exact List.take_length⟩
  rw [alloc_size] at h2
  refine ⟨h2.perm (List.Perm.swap _ _ _), ((Below.refl _ w).alloc (Nat.le_refl _) _).alloc (by simp) _⟩
theorem LsA.ret {w0 wr w' : World} {g c : Nat} {zs : List Int} {bw cw : Nat} {W : List ByteArray} (h : LsA w0 wr g c zs bw cw W) (hb : Below wr.heap.size wr w') : LsA w0 w' g c zs bw cw W := ⟨h.1.below hb, bthen h.2 hb⟩
theorem LsA.word {w0 wr : World} {g c : Nat} {zs : List Int} {bw cw : Nat} {W : List ByteArray} (h : LsA w0 wr g c zs bw cw W) {k : Nat} {x : ByteArray} (hk : W[k]? = some x) : wr.cell? ⟨bw, k, none⟩ = some (.string x) := by
  have hl : k < (W.map Value.string).length := by obtain ⟨h, _⟩ := List.getElem?_eq_some_iff.1 hk; simpa using h
  rw [h.1.cellAt 1 rfl k hl, List.getElem?_map, hk]
  rfl
theorem LsA.own {w0 wr : World} {g c : Nat} {zs : List Int} {bw cw : Nat} {W : List ByteArray} (h : LsA w0 wr g c zs bw cw W) (z : Int) : (wr.alloc (.cells #[.int .i64 z] 2)).ownsRow w0.heap.size 2 1 (.slice (some ⟨g, 0, none⟩) zs.length c) zs.length (zs.map (Value.int .i64)) := by
  have hr := ((h.1.alloc (.cells #[.int .i64 z] 2)).rowAt 0 rfl).1
  rw [List.length_map] at hr
  exact hr
theorem LsA.push {w0 wr w6 : World} {g c : Nat} {zs : List Int} {bw cw : Nat} {W : List ByteArray} (h : LsA w0 wr g c zs bw cw W) {z : Int} {v' : Value} {o : Obj} (hown : w6.ownsRow w0.heap.size 2 1 v' (zs.length + 1) (zs.map (Value.int .i64) ++ [.int .i64 z]))
    (hg : (wr.alloc o).grownBy w6 (some g)) (hat : v'.ownBlock = some g ∨ v'.ownBlock = some (wr.heap.size + 1)) : ∃ g2 c2, v' = .slice (some ⟨g2, 0, none⟩) (zs.length + 1) c2 ∧ LsA w0 w6 g2 c2 (zs ++ [z]) bw cw W := by
  obtain ⟨g2, c2, rfl, O2⟩ := (h.1.alloc o).ap 0 rfl hown hg (by rw [alloc_size]; exact hat)
  refine ⟨g2, c2, rfl, ?_, ?_⟩
  · rw [List.map_append]; exact O2
  · have hlt := (h.1.lt (List.mem_of_getElem? (l := [(g, _), (bw, _)]) (i := 0) rfl)).1
    exact (h.2.alloc h.2.size o).grown hg (by have := h.2.size; simp; omega) (fun k hk => by cases hk; exact hlt)
theorem LsA.ints {w0 wr : World} {g c : Nat} {zs : List Int} {bw cw : Nat} {W : List ByteArray} (h : LsA w0 wr g c zs bw cw W) : IsInts wr (some ⟨g, 0, none⟩) zs.length zs := by
  have hr := (h.1.rowAt 0 rfl).1
  rw [List.length_map] at hr
  exact IsInts.of_own hr
theorem noneT_iff {s : ByteArray} : (s.toList == noneT) = decide (s.data.toList = noneT) := by
  rw [Lib.toList_data]
  exact Bool.eq_iff_iff.2 (by rw [beq_iff_eq, decide_eq_true_iff])
set_option maxRecDepth 20000 in
set_option maxHeartbeats 3200000 in
theorem readList_any (s : ByteArray) (w : World) (hs : s.size ≤ 1048576) (hg : GlobE w) : Calls Tryd.prog 21 #[.string s] w (RetN w (numsL s.data.toList)) := by
  have hnq := @noneT_iff s
  have H0 := Lib.hid (GrowAt.start w 2)
  by_cases hn : s.data.toList = noneT
  · have hne : (s.toList == ([110, 111, 110, 101] : List UInt8)) = true := hnq.trans (decide_eq_true hn)
    have HF := Lib.hid (show numsL s.data.toList = some [] by unfold numsL; rw [if_pos hn])
    clear hnq hn
    go_enter Tryd.func21, Tryd.ntmps21
    go_wp2_with fail
    go_ret2
    exact RetN.some HF.out rfl (by simp) IsInts.nil H0.out.2
  · have hne : (s.toList == ([110, 111, 110, 101] : List UInt8)) = false := hnq.trans (decide_eq_false hn)
    obtain ⟨R, hR⟩ : ∃ R, numsL s.data.toList = R := ⟨_, rfl⟩
    obtain ⟨m, hm⟩ := hg.ml
    have HG := Lib.hid hg
    have hwl := wdB_len s
    have hcl : Lib.countB s { data := #[44] } ≤ s.size := Lib.countB_le _ (by decide) _ s (Nat.le_refl _)
    obtain ⟨W, hW⟩ : ∃ W, wdB s = W := ⟨_, rfl⟩
    rw [hW] at hwl
    have HWD := Lib.hid (show W.map (fun b => b.data.toList) = spA [] s.data.toList by rw [← hW]; exact wdB_data s)
    have HWS := Lib.hid (show ∀ x ∈ W, x.size ≤ 1048576 from fun x hx => Nat.le_trans (wdB_size (by rw [hW]; exact hx)) hs)
    have HRS := Lib.hid (show goV [] (W.map (fun b => b.data.toList)) = R by rw [HWD.out, ← hR]; unfold numsL; rw [if_neg hn])
    have HS := Lib.hid (Tryd.strings_Split s { data := #[44] } m (w.alloc (.cells #[] 2)) (by omega) (by rw [World.cell?_alloc_old _ _ _ (Nat.ne_of_lt (World.block_lt_of_cell? _ _ hm))]; exact hm) (by decide))
    have HL0 := Lib.hid (LsA.start w W (by omega))
    clear hm hg hnq hn
    rw [hR]
    go_enter Tryd.func21, Tryd.ntmps21
    go_wp2_with fail
    refine HS.out.mono ?_
    rintro e w1 ⟨rfl, rfl⟩
    rw [← hwl, show Lib.splitB { data := #[44] } 0 (Lib.countB s { data := #[44] }) s = W from hW]
    obtain ⟨w1, hw1⟩ : ∃ w1, (w.alloc (.cells #[] 2)).alloc (.cells ((W.map Value.string).toArray) 9) = w1 := ⟨_, rfl⟩
    rw [hw1] at HL0 ⊢
    rw [alloc_size]
    have HG1 := Lib.hid (HG.out.below HL0.out.2)
    have hwb : W.length ≤ 1048577 := by omega
    clear HS hwl hcl hW hR hw1
    go_wp2_with fail
    go_loopw [16, 4] (fun i v wr => ∃ (k g c : Nat) (zs : List Int), k ≤ W.length ∧ i = .int .i64 (k : Nat) ∧ v = .slice (some ⟨g, 0, none⟩) zs.length c ∧ zs.length ≤ 64 ∧ Hid (goV zs ((W.map (fun b => b.data.toList)).drop k) = R) ∧ Hid (LsA w wr g c zs (w.heap.size + 1) W.length W)) (fun i _ _ => W.length - (intOf i).toNat)
    case atStart => exact ⟨0, _, _, [], Nat.zero_le _, rfl, rfl, by simp, HRS, HL0⟩
    case round =>
      clear HL0 HRS
      obtain ⟨k, g, c, zs, hk, rfl, rfl, hz, HR, HL⟩ := hrel
      by_cases hlt : k < W.length
      · have hki : (k : Int) < (W.length : Int) := by omega
        have hk0 : (0 : Int) ≤ (k : Int) := by omega
        obtain ⟨x, hx⟩ : ∃ x, W[k] = x := ⟨_, rfl⟩
        have hxk : W[k]? = some x := by rw [← hx]; exact List.getElem?_eq_getElem hlt
        have cc := HL.out.word hxk
        have HXS := Lib.hid (HWS.out x (List.mem_of_getElem? hxk))
        have HD := Lib.hid (show (W.map (fun b => b.data.toList)).drop k = x.data.toList :: (W.map (fun b => b.data.toList)).drop (k + 1) by
          rw [List.drop_eq_getElem_cons (by simpa using hlt), List.getElem_map, hx])
        clear hx hxk
        go_wp2_with fail
        refine (readDecimal_any x _ HXS.out (HG.out.below HL.out.2)).mono ?_
        rintro e w2 ⟨rfl, hb⟩
        have HL2 := Lib.hid (HL.out.ret hb)
        clear hb HL cc
        cases hr : rdL x.data.toList with
        | none =>
          have HF := Lib.hid (show R = none by rw [← HR.out, HD.out, goV_none hr])
          clear hr
          simp only [optV]
          go_wp2_with fail
          go_ret2
          exact RetN.none HF.out HL2.out.2
        | some n =>
          simp only [optV]
          by_cases hz6 : zs.length = 64
          · have HF := Lib.hid (show R = none by rw [← HR.out, HD.out, goV_full hz6])
            have hzi : (zs.length : Int) = 64 := by omega
            clear hr hz6
            go_wp2_with fail
            go_ret2
            exact RetN.none HF.out HL2.out.2
          · have HP := Lib.hid (show goV (zs ++ [n]) ((W.map (fun b => b.data.toList)).drop (k + 1)) = R by rw [← HR.out, HD.out, goV_push hr hz6])
            have hzi : ¬ (zs.length : Int) = 64 := by omega
            have hzl : zs.length < 64 := by omega
            have hsz := HL2.out.2.size
            have HOW := Lib.hid (HL2.out.own n)
            clear hr hz6
            go_wp2_with (at_builtin; refine wpList_ap1 rfl (.tmp 32) (.tmp 34) 32 rfl w.heap.size 2 (.int .i64 0) 8 Tryd.underlying32 Tryd.infoI rfl _ zs.length _ rfl HOW.out _ (.int .i64 n) rfl (by go_simp) rfl (by omega) (by omega) (by simp only [alloc_size]; omega) ?_)
            intro v' w6 hown hgrow hat
            obtain ⟨g2, c2, rfl, L2⟩ := HL2.out.push hown hgrow hat
            have HL3 := Lib.hid L2
            clear hown hgrow hat L2 HOW HL2
            go_wp2_with fail
            go_roundw
            case rel => exact ⟨k + 1, g2, c2, zs ++ [n], by omega, by go_num, by rw [List.length_append]; rfl, by rw [List.length_append]; simp; omega, HP, HL3⟩
            case measure => simp [intOf]; omega
      · obtain rfl : k = W.length := by omega
        have hki : ¬ (W.length : Int) < (W.length : Int) := by omega
        have HF := Lib.hid (show R = some zs by rw [← HR.out, List.drop_of_length_le (by simp)]; rfl)
        go_wp2_with fail
        go_ret2
        exact RetN.some HF.out rfl hz HL.out.ints HL.out.2
theorem spA_more {l cur : List UInt8} {i : Nat} (hi : i < l.length) (h : l[i] ≠ 44) : spA cur (l.drop i) = spA (cur ++ [l[i]]) (l.drop (i + 1)) := by
  rw [List.drop_eq_getElem_cons hi, spA, if_neg h]
theorem spA_cut {l cur : List UInt8} {i : Nat} (hi : i < l.length) (h : l[i] = 44) : spA cur (l.drop i) = cur :: spA [] (l.drop (i + 1)) := by
  rw [List.drop_eq_getElem_cons hi, spA, if_pos h]
theorem curL_more {l : List UInt8} {i f : Nat} (hi : i < l.length) (hf : f ≤ i) : (l.take i).drop f ++ [l[i]] = (l.take (i + 1)).drop f := by
  rw [List.take_succ_eq_append_getElem hi, List.drop_append_of_le_length (by simp; omega)]
theorem curL_new (l : List UInt8) (i : Nat) : (l.take (i + 1)).drop (i + 1) = [] := by
  rw [List.drop_eq_nil_iff]; simp; omega
theorem curL_data (s : ByteArray) (f i : Nat) : (s.extract f i).data.toList = (s.data.toList.take i).drop f := by
  simp [List.drop_take]
/-- Where the reference stands. -/
def AtN (l : List UInt8) (R : Option (List Int)) (i f : Nat) (zs : List Int) : Prop := if i ≤ l.length then goV zs (spA ((l.take i).drop f) (l.drop i)) = R else R = some zs
theorem AtN.go {l : List UInt8} {R : Option (List Int)} {i f : Nat} {zs : List Int} (h : AtN l R i f zs) (hi : i < l.length) (hf : f ≤ i) (hc : l[i] ≠ 44) : AtN l R (i + 1) f zs := by
  unfold AtN at h ⊢
  rw [if_pos (by omega), spA_more hi hc, curL_more hi hf] at h
  rw [if_pos (by omega)]
  exact h
theorem AtN.word {l : List UInt8} {R : Option (List Int)} {i f : Nat} {zs : List Int} (h : AtN l R i f zs) (hi : i ≤ l.length) (hc : ∀ h : i < l.length, l[i] = 44) :
    (rdL ((l.take i).drop f) = none → R = none) ∧ (zs.length = 64 → R = none) ∧ (∀ n, rdL ((l.take i).drop f) = some n → zs.length ≠ 64 → AtN l R (i + 1) (i + 1) (zs ++ [n])) := by
  unfold AtN at h ⊢
  rw [if_pos hi] at h
  by_cases hlt : i < l.length
  · rw [spA_cut hlt (hc hlt)] at h
    refine ⟨fun e => by rw [← h, goV_none e], fun e => by rw [← h, goV_full e], fun n e1 e2 => ?_⟩
    rw [if_pos (by omega), curL_new, ← h, goV_push e1 e2]
  · have hd : l.drop i = [] := by rw [List.drop_eq_nil_iff]; omega
    rw [hd, spA] at h
    refine ⟨fun e => by rw [← h, goV_none e], fun e => by rw [← h, goV_full e], fun n e1 e2 => ?_⟩
    rw [if_neg (by omega), ← h, goV_push e1 e2]
    rfl
set_option maxRecDepth 20000 in
set_option maxHeartbeats 3200000 in
theorem l01Numbers_any (s : ByteArray) (w : World) (hs : s.size ≤ 1048576) : Calls Tryd.prog 41 #[.string s] w (RetN w (numsL s.data.toList)) := by
  have hnq := @noneT_iff s
  have H0 := Lib.hid (GrowAt.start w 2)
  by_cases hn : s.data.toList = noneT
  · have hne : (s.toList == ([110, 111, 110, 101] : List UInt8)) = true := hnq.trans (decide_eq_true hn)
    have HF := Lib.hid (show numsL s.data.toList = some [] by unfold numsL; rw [if_pos hn])
    have hs0 : (0 : Int) ≤ (s.size : Int) := by omega
    clear hnq hn
    go_enter Tryd.func41, Tryd.ntmps41
    go_wp2_with fail
    go_loop [6, 4] (fun i v => i = .int .i64 0 ∧ v = .slice (some ⟨w.heap.size, 0, none⟩) 0 0) (fun _ _ => 0)
    case atStart => exact ⟨rfl, rfl⟩
    case round =>
      obtain ⟨rfl, rfl⟩ := hrel
      go_wp2_with fail
      go_ret2
      exact RetN.some HF.out rfl (by simp) IsInts.nil H0.out.2
  · have hne : (s.toList == ([110, 111, 110, 101] : List UInt8)) = false := hnq.trans (decide_eq_false hn)
    obtain ⟨R, hR⟩ : ∃ R, numsL s.data.toList = R := ⟨_, rfl⟩
    have HRS := Lib.hid (show AtN s.data.toList R 0 0 [] by
      unfold AtN
      rw [if_pos (Nat.zero_le _), ← hR]
      unfold numsL
      rw [if_neg hn]
      rfl)
    have hsl := size_list s
    clear hnq hn
    rw [hR]
    clear hR
    go_enter Tryd.func41, Tryd.ntmps41
    go_wp2_with fail
    go_loopw [6, 5, 4] (fun iv fv v wr => ∃ (i f : Nat) (a : Option Addr) (c : Nat) (zs : List Int), i ≤ s.size + 1 ∧ f ≤ i ∧ iv = .int .i64 (i : Nat) ∧ fv = .int .i64 (f : Nat) ∧ v = .slice a zs.length c ∧ zs.length ≤ 64 ∧ Hid (AtN s.data.toList R i f zs) ∧ Hid (GrowAt w wr 2 (.slice a zs.length c) zs.length (zs.map (Value.int .i64)))) (fun iv _ _ _ => s.size + 1 - (intOf iv).toNat)
    case atStart => exact ⟨0, 0, _, _, [], Nat.zero_le _, Nat.le_refl _, rfl, rfl, rfl, by simp, HRS, H0⟩
    case round =>
      clear H0 HRS
      obtain ⟨i, f, a, c, zs, hi, hf, rfl, rfl, rfl, hz, HA, HG⟩ := hrel
      by_cases hle : i ≤ s.size
      · have hii : (i : Int) ≤ (s.size : Int) := by omega
        have hi0 : (0 : Int) ≤ (i : Int) := by omega
        have hf0 : (0 : Int) ≤ (f : Int) := by omega
        have hfi : (f : Int) ≤ (i : Int) := by omega
        have key : (∃ (hlt : i < s.size), s.data.toList[i]'(by omega) ≠ 44) ∨ (∀ h : i < s.data.toList.length, s.data.toList[i] = 44) := by
          by_cases h1 : i < s.size
          · by_cases h2 : s.data.toList[i]'(by omega) = 44
            · exact Or.inr fun _ => h2
            · exact Or.inl ⟨h1, h2⟩
          · exact Or.inr fun h => absurd (by omega) h1
        rcases key with ⟨hlt, hc⟩ | hc
        · have HA2 := Lib.hid (HA.out.go (by omega) hf hc)
          have hgk := get_by8 s i hlt
          have hbk := by8_at s (k := i) (by omega)
          obtain ⟨bv, hbv⟩ : ∃ bv : Nat, (by8 s i).toNat = bv := ⟨_, rfl⟩
          have hg : ((s[i].toNat : Nat) : Int) = (bv : Int) := by rw [hgk, hbv]
          have hb44 : ¬ (bv : Int) = 44 := by
            intro e
            apply hc
            rw [← hbk]
            apply UInt8.toNat_inj.1
            rw [hbv]
            show bv = 44
            omega
          have hli : (i : Int) < (s.size : Int) := by omega
          clear hgk hbk hbv hc
          go_wp2_with fail
          go_roundw
          case rel => exact ⟨i + 1, f, a, c, zs, by omega, by omega, by go_num, rfl, rfl, hz, HA2, HG⟩
          case measure => simp [intOf]; omega
        · have HW := Lib.hid (HA.out.word (by omega) hc)
          have HE := Lib.hid (curL_data s f i)
          have hli : ¬ (i : Int) < (s.size : Int) ∨ ((i : Int) < (s.size : Int) ∧ ∃ h, ((s[i]'h).toNat : Int) = 44) := by
            by_cases h1 : i < s.size
            · refine Or.inr ⟨by omega, h1, ?_⟩
              rw [get_by8 s i h1, by8_at s (k := i) (by omega), hc (by omega)]
              rfl
            · exact Or.inl (by omega)
          clear hc
          have hsx : (s.extract f i).size ≤ 1048576 := by rw [ByteArray.size_extract]; omega
          have HV := Lib.hid (fun w => l01Value_any (s.extract f i) w hsx)
          clear hsx
          rcases hli with hli | ⟨hli, hli2, hg⟩
          all_goals
            go_wp2_with fail
            refine (HV.out _).mono ?_
            rintro e w2 ⟨rfl, hb⟩
            have HG2 := Lib.hid (HG.out.ret hb)
            clear hb HG
            rw [HE.out]
            cases hr : rdL ((s.data.toList.take i).drop f) with
            | none =>
              have HF := Lib.hid (HW.out.1 hr)
              clear hr
              simp only [optV]
              go_wp2_with fail
              go_ret2
              exact RetN.none HF.out HG2.out.2
            | some n =>
              simp only [optV]
              by_cases hz6 : zs.length = 64
              · have HF := Lib.hid (HW.out.2.1 hz6)
                have hzi : (zs.length : Int) = 64 := by omega
                clear hr hz6
                go_wp2_with fail
                go_ret2
                exact RetN.none HF.out HG2.out.2
              · have HP := Lib.hid (HW.out.2.2 n hr hz6)
                have hzi : ¬ (zs.length : Int) = 64 := by omega
                have hzl : zs.length < 64 := by omega
                have hsz := HG2.out.2.size
                have HOW := Lib.hid (HG2.out.alloc (.cells #[.int .i64 n] 2)).1
                clear hr hz6
                go_wp2_with (at_builtin; refine wpList_ap1 rfl (.tmp 45) (.tmp 47) 32 rfl w.heap.size 2 (.int .i64 0) 8 Tryd.underlying32 Tryd.infoI rfl _ zs.length _ rfl HOW.out _ (.int .i64 n) rfl (by go_simp) rfl (by omega) (by omega) (by simp only [alloc_size]; omega) ?_)
                intro v' w6 hown hgrow _
                obtain ⟨a6, c6, rfl⟩ := own_form hown
                have HG3 := Lib.hid (HG2.out.i64 hown hgrow)
                clear hown hgrow HOW HG2
                go_wp2_with fail
                go_roundw
                case rel => exact ⟨i + 1, i + 1, a6, c6, zs ++ [n], by omega, by omega, by go_num, by go_num, by rw [List.length_append]; rfl, by rw [List.length_append]; simp; omega, HP, by rw [List.length_append]; exact HG3⟩
                case measure => simp [intOf]; omega
      · obtain rfl : i = s.size + 1 := by omega
        have hii : ¬ ((s.size + 1 : Nat) : Int) ≤ (s.size : Int) := by omega
        have hiw : (((s.size + 1 : Nat) : Nat) : Int) = (s.size : Int) + 1 := by omega
        have HF := Lib.hid (show R = some zs by
          have := HA.out
          unfold AtN at this
          rw [if_neg (by omega)] at this
          exact this)
        go_wp2_with fail
        go_ret2
        exact RetN.some HF.out rfl hz (IsInts.of_own HG.out.1) HG.out.2
end Go.Proofs.YthjndfbjalkckaaDoor

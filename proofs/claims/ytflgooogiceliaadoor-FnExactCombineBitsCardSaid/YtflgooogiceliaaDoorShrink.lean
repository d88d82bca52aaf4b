import Derived.Test.YtflgooogiceliaaDoorBuild
import Derived.Test.YtflgooogiceliaaDoorBits
import Derived.Test.YtflgooogiceliaaDoorGrow
import Derived.Deep.LoopGhost
/- Bits that are selected by bits: the law FnExactShrinkBits. Condition: the texts are shorter than the model's greatest length. -/
namespace Go.Proofs.YtflgooogiceliaaDoor
open Go.RowKit
set_option linter.unusedVariables false

theorem Tryd.infoB9 : (Tryd.prog.info? 5).map (fun i => (i.zero, i.size, i.bytes)) = some (some (.int .u8 0), 1, 1) := by kernel_rfl
/-- The numbers b that are selected by f. -/
def shF (f : Nat → Bool) (b : Nat → Int) : Nat → List Int
  | 0 => []
  | m + 1 => if f m then shF f b m ++ [b m] else shF f b m
theorem shF_len (f : Nat → Bool) (b : Nat → Int) : ∀ m, (shF f b m).length ≤ m
  | 0 => Nat.le_refl _
  | m + 1 => by have := shF_len f b m; rw [shF]; split <;> simp <;> omega
theorem shF_ok {f : Nat → Bool} {b : Nat → Int} (hb : ∀ m, 0 ≤ b m ∧ b m ≤ 255) : ∀ m, numOk (shF f b m)
  | 0 => fun x hx => by cases hx
  | m + 1 => fun x hx => by
    rw [shF] at hx
    split at hx
    · rcases List.mem_append.1 hx with hx | hx
      · exact shF_ok hb m x hx
      · rw [List.mem_singleton] at hx; subst hx; exact hb m
    · exact shF_ok hb m x hx
def byI (s : ByteArray) (m : Nat) : Int := ((by8 s m).toNat : Int)
theorem byI_ok (s : ByteArray) (m : Nat) : 0 ≤ byI s m ∧ byI s m ≤ 255 := by
  unfold byI
  have := (by8 s m).toNat_lt
  omega
def shOk (s t : ByteArray) : Bool := isB s && isB t && decide (s.size = t.size)
def shX (s t : ByteArray) : List Int := if shOk s t then shF (fun m => by8 s m == 49) (byI t) t.size else []
/-- A call's answer: a text, whether there is one. -/
def RetTx (w : World) (ok : Bool) (xs : List Int) (e : Ending) (w' : World) : Prop := e = .returned (.tuple #[.string (strOfNums xs), .bool ok]) ∧ Below w.heap.size w w'
theorem retTx_no {w w' : World} (hb : Below w.heap.size w w') : RetTx w false [] (.returned (.tuple #[.string ⟨#[]⟩, .bool false])) w' := ⟨rfl, hb⟩
theorem is49 (s : ByteArray) (m : Nat) (h : m < s.size) : (((s[m]'h).toNat : Nat) : Int) = byI s m := by rw [get_by8]; rfl
theorem eq49 {s : ByteArray} {m : Nat} : (by8 s m == 49) = ((byI s m) == 49) := by
  rw [Bool.eq_iff_iff]
  simp only [beq_iff_eq, byI]
  constructor
  · intro h; rw [h]; rfl
  · intro h; exact UInt8.toNat_inj.1 (show _ = 49 by omega)
set_option maxRecDepth 20000 in
set_option maxHeartbeats 3200000 in
theorem shrinkBits_any (s t : ByteArray) (w : World) (hs : s.size ≤ maxLen) (ht : t.size ≤ maxLen) :
    Calls Tryd.prog 44 #[.string s, .string t] w (RetTx w (shOk s t) (shX s t)) := by
  cases h1 : isB s with
  | false =>
    have ho : shOk s t = false := by simp [shOk, h1]
    rw [show shX s t = [] by unfold shX; rw [ho]; rfl, ho]
    have H1 := Lib.hid h1
    clear h1 ho
    go_enter Tryd.func44, Tryd.ntmps44
    go_wp2_with fail
    refine (isBits_any s _ hs).mono ?_
    rintro e w1 ⟨rfl, hb1⟩
    rw [H1.out]
    go_wp2_with fail
    go_ret2
    exact retTx_no hb1
  | true =>
    cases h2 : isB t with
    | false =>
      have ho : shOk s t = false := by simp [shOk, h2]
      rw [show shX s t = [] by unfold shX; rw [ho]; rfl, ho]
      have H1 := Lib.hid (And.intro h1 h2)
      clear h1 h2 ho
      go_enter Tryd.func44, Tryd.ntmps44
      go_wp2_with fail
      refine (isBits_any s _ hs).mono ?_
      rintro e w1 ⟨rfl, hb1⟩
      rw [H1.out.1]
      go_wp2_with fail
      refine (isBits_any t _ ht).mono ?_
      rintro e w2 ⟨rfl, hb2⟩
      rw [H1.out.2]
      go_wp2_with fail
      go_ret2
      exact retTx_no (bthen hb1 hb2)
    | true =>
      have hs4 := isB_size h1
      by_cases hsz : s.size = t.size
      · have ho : shOk s t = true := by simp [shOk, h1, h2, hsz]
        rw [show shX s t = shF (fun m => by8 s m == 49) (byI t) t.size by unfold shX; rw [ho]; rfl, ho]
        have H1 := Lib.hid (And.intro h1 h2)
        clear h1 h2 ho
        rw [hsz] at hs4
        obtain ⟨f, hf⟩ : ∃ f : Nat → Bool, (fun m => by8 s m == 49) = f := ⟨_, rfl⟩
        rw [hf]
        have HF := Lib.hid (fun (m : Nat) => (congrFun hf m).symm)
        have hne : ((s.size : Int) != (t.size : Int)) = false := by simp [hsz]
        have HZ := Lib.hid hsz
        clear hf hsz
        go_enter Tryd.func44, Tryd.ntmps44
        go_wp2_with fail
        refine (isBits_any s _ hs).mono ?_
        rintro e w1 ⟨rfl, hb1⟩
        rw [H1.out.1]
        have Hb1 := Lib.hid hb1
        clear hb1
        go_wp2_with fail
        refine (isBits_any t _ ht).mono ?_
        rintro e w2 ⟨rfl, hb2⟩
        rw [H1.out.2]
        have HD := Lib.hid (Bd.start ((OwnAt.start w).ret (bthen Hb1.out hb2)))
        obtain ⟨b, hb⟩ : ∃ b, w2.heap.size = b := ⟨_, rfl⟩
        rw [hb] at HD
        have HBB := Lib.hid hb
        clear hb2 Hb1 hb
        go_wp2
        rw [HBB.out]
        go_loopw [25] (fun i wr => ∃ m : Nat, m ≤ t.size ∧ i = .int .i64 (m : Nat) ∧ Hid (Bd w wr b (shF f (byI t) m) [])) (fun i _ => t.size - (intOf i).toNat)
        case atStart => exact ⟨0, Nat.zero_le _, rfl, HD⟩
        case round =>
          clear HD
          obtain ⟨m, hm, rfl, HD⟩ := hrel
          by_cases hlt : m < t.size
          · have hlts : m < s.size := by rw [HZ.out]; exact hlt
            have hm0 : (0:Int) ≤ (m:Int) := by omega
            have hmi : (m:Int) < (t.size:Int) := by omega
            have hmj : (m:Int) < (s.size:Int) := by omega
            have hst : shF f (byI t) (m + 1) = if f m then shF f (byI t) m ++ [byI t m] else shF f (byI t) m := rfl
            have e1 := is49 s m hlts
            have e2 := is49 t m hlt
            have e3 := HF.out m
            rw [eq49] at e3
            have hln := shF_len f (byI t) m
            obtain ⟨x, hx⟩ : ∃ x, byI s m = x := ⟨_, rfl⟩
            obtain ⟨y, hy⟩ : ∃ y, byI t m = y := ⟨_, rfl⟩
            rw [hx] at e1 e3
            rw [hy] at e2 hst
            obtain ⟨xs, hxs⟩ : ∃ xs, shF f (byI t) m = xs := ⟨_, rfl⟩
            rw [hxs] at HD hst hln
            cases hfm : f m with
            | false =>
              rw [hfm] at hst e3
              have HN := Lib.hid (show Bd w wr b (shF f (byI t) (m + 1)) [] by rw [hst]; exact HD.out)
              clear hst hx hy hxs hfm
              have e4 : (x == 49) = false := e3.symm
              clear e3
              go_wp2
              go_roundw
              case rel => exact ⟨m + 1, by omega, by go_num, HN⟩
              case measure => simp [intOf]; omega
            | true =>
              rw [hfm] at hst e3
              have HW := Lib.hid (writeByte_any b xs [] y w wr HD.out (by omega))
              have HST := Lib.hid hst
              clear hst hx hy hxs hfm
              obtain rfl : x = 49 := by simpa using e3.symm
              clear e3
              go_wp2_with fail
              refine HW.out.mono ?_
              rintro e w5 ⟨rfl, hd5⟩
              have HN := Lib.hid (show Bd w w5 b (shF f (byI t) (m + 1)) [] by rw [HST.out]; exact hd5)
              clear hd5
              go_wp2
              go_roundw
              case rel => exact ⟨m + 1, by omega, by go_num, HN⟩
              case measure => simp [intOf]; omega
          · obtain rfl : m = t.size := by omega
            have hln := shF_len f (byI t) t.size
            have HT := Lib.hid (builderText_any b (shF f (byI t) t.size) [] w wr HD.out (shF_ok (byI_ok t) _) (by omega))
            go_wp2_with fail
            refine HT.out.mono ?_
            rintro e w5 ⟨rfl, hO⟩
            have HO := Lib.hid hO
            clear hO
            go_wp2
            go_ret2
            exact ⟨rfl, HO.out.2⟩
      · have ho : shOk s t = false := by simp [shOk, hsz]
        rw [show shX s t = [] by unfold shX; rw [ho]; rfl, ho]
        have H1 := Lib.hid (And.intro h1 h2)
        have hne : ((s.size : Int) != (t.size : Int)) = true := by simp; omega
        clear h1 h2 ho
        go_enter Tryd.func44, Tryd.ntmps44
        go_wp2_with fail
        refine (isBits_any s _ hs).mono ?_
        rintro e w1 ⟨rfl, hb1⟩
        rw [H1.out.1]
        go_wp2_with fail
        refine (isBits_any t _ ht).mono ?_
        rintro e w2 ⟨rfl, hb2⟩
        rw [H1.out.2]
        go_wp2_with fail
        go_ret2
        exact retTx_no (bthen hb1 hb2)
theorem GrowAt.bytes {w0 wr w6 : World} {v v' : Value} {n : Nat} {xs : List Int} {z : Int} {o : Obj} (h : GrowAt w0 wr 5 v n (xs.map (Value.int .u8))) (hown : w6.ownsRow w0.heap.size 5 1 v' (n + 1) (xs.map (Value.int .u8) ++ [.int .u8 z])) (hg : (wr.alloc o).grownBy w6 v.ownBlock) : GrowAt w0 w6 5 v' (n + 1) ((xs ++ [z]).map (Value.int .u8)) := by
  rw [List.map_append]
  exact (h.alloc o).push hown hg
set_option maxRecDepth 20000 in
set_option maxHeartbeats 3200000 in
theorem specShrinkBits_any (s t : ByteArray) (w : World) (hs : s.size ≤ maxLen) (ht : t.size ≤ maxLen) :
    Calls Tryd.prog 43 #[.string s, .string t] w (RetTx w (shOk s t) (shX s t)) := by
  cases h1 : isB s with
  | false =>
    have ho : shOk s t = false := by simp [shOk, h1]
    rw [show shX s t = [] by unfold shX; rw [ho]; rfl, ho]
    have H1 := Lib.hid h1
    clear h1 ho
    go_enter Tryd.func43, Tryd.ntmps43
    go_wp2_with fail
    refine (l01Bits_any s _ hs).mono ?_
    rintro e w1 ⟨rfl, rfl⟩
    rw [H1.out]
    go_wp2_with fail
    go_ret2
    exact retTx_no (Below.refl _ _)
  | true =>
    cases h2 : isB t with
    | false =>
      have ho : shOk s t = false := by simp [shOk, h2]
      rw [show shX s t = [] by unfold shX; rw [ho]; rfl, ho]
      have H1 := Lib.hid (And.intro h1 h2)
      clear h1 h2 ho
      go_enter Tryd.func43, Tryd.ntmps43
      go_wp2_with fail
      refine (l01Bits_any s _ hs).mono ?_
      rintro e w1 ⟨rfl, rfl⟩
      rw [H1.out.1]
      go_wp2_with fail
      refine (l01Bits_any t _ ht).mono ?_
      rintro e w2 ⟨rfl, rfl⟩
      rw [H1.out.2]
      go_wp2_with fail
      go_ret2
      exact retTx_no (Below.refl _ _)
    | true =>
      have hs4 := isB_size h1
      by_cases hsz : s.size = t.size
      · have ho : shOk s t = true := by simp [shOk, h1, h2, hsz]
        rw [show shX s t = shF (fun m => by8 s m == 49) (byI t) t.size by unfold shX; rw [ho]; rfl, ho]
        have H1 := Lib.hid (And.intro h1 h2)
        clear h1 h2 ho
        rw [hsz] at hs4
        obtain ⟨f, hf⟩ : ∃ f : Nat → Bool, (fun m => by8 s m == 49) = f := ⟨_, rfl⟩
        rw [hf]
        have HF := Lib.hid (fun (m : Nat) => (congrFun hf m).symm)
        have hne : ((s.size : Int) != (t.size : Int)) = false := by simp [hsz]
        have HZ := Lib.hid hsz
        clear hf hsz
        go_enter Tryd.func43, Tryd.ntmps43
        go_wp2_with fail
        refine (l01Bits_any s _ hs).mono ?_
        rintro e w1 ⟨rfl, rfl⟩
        rw [H1.out.1]
        go_wp2_with fail
        refine (l01Bits_any t _ ht).mono ?_
        rintro e w2 ⟨rfl, rfl⟩
        rw [H1.out.2]
        have HG := Lib.hid (GrowAt.start w 5)
        go_wp2
        go_loopw [7, 6] (fun i v wr => ∃ (m n : Nat) (xs : List Int), m ≤ t.size ∧ n ≤ m ∧ i = .int .i64 (m : Nat) ∧ Hid (xs = shF f (byI t) m) ∧ Hid (GrowAt w wr 5 v n (xs.map (Value.int .u8)))) (fun i _ _ => t.size - (intOf i).toNat)
        case atStart => exact ⟨0, 0, [], Nat.zero_le _, Nat.le_refl _, rfl, Lib.hid rfl, HG⟩
        case round =>
          clear HG
          obtain ⟨m, n, xs, hm, hn, rfl, HXS, HG⟩ := hrel
          by_cases hlt : m < t.size
          · have hlts : m < s.size := by rw [HZ.out]; exact hlt
            have hm0 : (0:Int) ≤ (m:Int) := by omega
            have hmi : (m:Int) < (t.size:Int) := by omega
            have hmj : (m:Int) < (s.size:Int) := by omega
            have hst : shF f (byI t) (m + 1) = if f m then shF f (byI t) m ++ [byI t m] else shF f (byI t) m := rfl
            rw [← HXS.out] at hst
            have e1 := is49 s m hlts
            have e2 := is49 t m hlt
            have e3 := HF.out m
            rw [eq49] at e3
            obtain ⟨x, hx⟩ : ∃ x, byI s m = x := ⟨_, rfl⟩
            obtain ⟨y, hy⟩ : ∃ y, byI t m = y := ⟨_, rfl⟩
            rw [hx] at e1 e3
            rw [hy] at e2 hst
            cases hfm : f m with
            | false =>
              rw [hfm] at hst e3
              have HN : Hid (xs = shF f (byI t) (m + 1)) := Lib.hid (by rw [hst]; rfl)
              clear hst hx hy hfm
              have e4 : (x == 49) = false := e3.symm
              clear e3
              go_wp2
              go_roundw
              case rel => exact ⟨m + 1, n, xs, by omega, by omega, by go_num, HN, HG⟩
              case measure => simp [intOf]; omega
            | true =>
              rw [hfm] at hst e3
              have HN : Hid (xs ++ [y] = shF f (byI t) (m + 1)) := Lib.hid (by rw [hst]; rfl)
              clear hst hx hy hfm
              obtain rfl : x = 49 := by simpa using e3.symm
              clear e3
              have HG1 := Lib.hid (HG.out.alloc (.cells #[.int .u8 y] 5))
              go_wp2_with (at_builtin; refine wpList_ap1 rfl (.tmp 34) (.tmp 38) 37 rfl w.heap.size 5 (.int .u8 0) 1 Tryd.underlying37 Tryd.infoB9 rfl _ n _ rfl HG1.out.1 wr.heap.size (.int .u8 y) rfl (by go_simp) rfl (by omega) (by omega) HG1.out.2.size ?_)
              intro v' w6 hown hgrow _
              have HG2 := Lib.hid (HG.out.bytes hown hgrow)
              clear hown hgrow
              go_wp2
              go_roundw
              case rel => exact ⟨m + 1, n + 1, xs ++ [y], by omega, by omega, by go_num, HN, HG2⟩
              case measure => simp [intOf]; omega
          · obtain rfl : m = t.size := by omega
            have hcb := conv_own (P := Tryd.prog) 37 9 Tryd.underlying37 Tryd.underlying5 Tryd.underlying9 HG.out.1
            go_wp2
            go_ret2
            exact ⟨by rw [← HXS.out]; rfl, HG.out.2⟩
      · have ho : shOk s t = false := by simp [shOk, hsz]
        rw [show shX s t = [] by unfold shX; rw [ho]; rfl, ho]
        have H1 := Lib.hid (And.intro h1 h2)
        have hne : ((s.size : Int) != (t.size : Int)) = true := by simp; omega
        clear h1 h2 ho
        go_enter Tryd.func43, Tryd.ntmps43
        go_wp2_with fail
        refine (l01Bits_any s _ hs).mono ?_
        rintro e w1 ⟨rfl, rfl⟩
        rw [H1.out.1]
        go_wp2_with fail
        refine (l01Bits_any t _ ht).mono ?_
        rintro e w2 ⟨rfl, rfl⟩
        rw [H1.out.2]
        go_wp2_with fail
        go_ret2
        exact retTx_no (Below.refl _ _)
set_option maxHeartbeats 1600000 in
theorem fnExactShrinkBits_walk (s t : ByteArray) (w : World) (hs : s.size ≤ maxLen) (ht : t.size ≤ maxLen) :
    Calls Tryd.prog 10 #[.string s, .string t] w fun e w' => e = .returned (.bool true) ∧ Below w.heap.size w w' := by
  by_cases hbig : 1048576 < s.size
  · have : (1048576 : Int) < (s.size : Int) := by omega
    go_enter Tryd.func10, Tryd.ntmps10
    go_wp2
    go_ret
    exact ⟨rfl, Below.refl _ _⟩
  · have h0 : ¬ (1048576 : Int) < (s.size : Int) := by omega
    by_cases hbig2 : 1048576 < t.size
    · have : (1048576 : Int) < (t.size : Int) := by omega
      go_enter Tryd.func10, Tryd.ntmps10
      go_wp2
      go_ret
      exact ⟨rfl, Below.refl _ _⟩
    · have h2 : ¬ (1048576 : Int) < (t.size : Int) := by omega
      have HI := Lib.hid (fun w => shrinkBits_any s t w hs ht)
      have HS := Lib.hid (fun w => specShrinkBits_any s t w hs ht)
      unfold RetTx at HI HS
      obtain ⟨d, hd⟩ : ∃ d, shOk s t = d := ⟨_, rfl⟩
      obtain ⟨z, hz⟩ : ∃ z, strOfNums (shX s t) = z := ⟨_, rfl⟩
      rw [hd, hz] at HI HS
      clear hd hz hbig hbig2
      go_enter Tryd.func10, Tryd.ntmps10
      go_wp2_with fail
      refine (HS.out _).mono ?_
      rintro e w1 ⟨rfl, hb1⟩
      have HB1 := Lib.hid hb1
      clear hb1
      go_wp2_with fail
      refine (HI.out _).mono ?_
      rintro e w2 ⟨rfl, hb2⟩
      have HB2 := Lib.hid (bthen HB1.out hb2)
      clear hb2
      go_wp2
      go_ret
      exact ⟨rfl, HB2.out⟩
end Go.Proofs.YtflgooogiceliaaDoor

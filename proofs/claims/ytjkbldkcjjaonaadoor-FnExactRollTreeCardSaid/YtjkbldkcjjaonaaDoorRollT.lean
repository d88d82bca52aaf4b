import Derived.Test.YtjkbldkcjjaonaaDoorTreeL
import Derived.Test.YtjkbldkcjjaonaaDoorBits
/- A draw from a tree of dyadic weights by given bits: program, reference, law. Condition: the text is shorter than the model's greatest length. -/
namespace Go.Proofs.YtjkbldkcjjaonaaDoor
open Go.RowKit
set_option linter.unusedVariables false

def bN (s : ByteArray) (d : Nat) : Nat := if by8 s d == 49 then 1 else 0
def lvAt (L : List (List Int)) (d : Nat) : List Int := L.getD d []
/-- The draw from level d on with the number v: the face, the bits read, whether it came to a face. -/
def rtGo (L : List (List Int)) (s : ByteArray) : Nat → Nat → Nat → Int × Int × Bool
  | 0, _, _ => (0, 0, false)
  | f + 1, d, v => if v < (lvAt L d).length then ((lvAt L d).getD v 0, (d : Int), true) else if d = s.size then (0, 0, false) else rtGo L s f (d + 1) (2 * (v - (lvAt L d).length) + bN s d)
def rtOk (ws : List Int) (s : ByteArray) : Bool := treeOk ws && isB s
def rtV (ws : List Int) (s : ByteArray) : Int × Int × Bool := if rtOk ws s then rtGo (treeL ws) s (treeL ws).length 0 0 else (0, 0, false)
def RetR (w : World) (r : Int × Int × Bool) (e : Ending) (w' : World) : Prop := e = .returned (.tuple #[.int .i64 r.1, .int .i64 r.2.1, .bool r.2.2]) ∧ Below w.heap.size w w'
theorem rt_hit {L : List (List Int)} {s : ByteArray} {k d v : Nat} {r : Int × Int × Bool} (hd : d < k) (h : rtGo L s (k - d) d v = r) (hv : v < (lvAt L d).length) : r = ((lvAt L d).getD v 0, (d : Int), true) := by
  rw [show k - d = (k - (d + 1)) + 1 by omega, rtGo, if_pos hv] at h
  exact h.symm
theorem rt_end {L : List (List Int)} {s : ByteArray} {k d v : Nat} {r : Int × Int × Bool} (hd : d < k) (h : rtGo L s (k - d) d v = r) (hv : ¬ v < (lvAt L d).length) (hs : d = s.size) : r = (0, 0, false) := by
  rw [show k - d = (k - (d + 1)) + 1 by omega, rtGo, if_neg hv, if_pos hs] at h
  exact h.symm
theorem rt_go {L : List (List Int)} {s : ByteArray} {k d v : Nat} {r : Int × Int × Bool} (hd : d < k) (h : rtGo L s (k - d) d v = r) (hv : ¬ v < (lvAt L d).length) (hs : ¬ d = s.size) : rtGo L s (k - (d + 1)) (d + 1) (2 * (v - (lvAt L d).length) + bN s d) = r := by
  rw [show k - d = (k - (d + 1)) + 1 by omega, rtGo, if_neg hv, if_neg hs] at h
  exact h
theorem rt_out {L : List (List Int)} {s : ByteArray} {k v : Nat} {r : Int × Int × Bool} (h : rtGo L s (k - k) k v = r) : r = (0, 0, false) := by
  rw [Nat.sub_self, rtGo] at h
  exact h.symm
theorem bN_byte {s : ByteArray} (hb : isB s = true) {d : Nat} (h : d < s.size) : (((s[d]'h).toNat : Nat) : Int) = 48 + (bN s d : Nat) ∧ bN s d ≤ 1 := by
  rw [get_by8, (isB_at hb h).1]
  unfold bitOf bN
  by_cases e : by8 s d = 49
  · have h3 : (by8 s d == 49) = true := by rw [e]; rfl
    rw [if_pos e, if_pos h3]; exact ⟨rfl, Nat.le_refl _⟩
  · have h3 : (by8 s d == 49) = false := beq_eq_false_iff_ne.2 e
    rw [if_neg e, if_neg (by rw [h3]; simp)]; exact ⟨rfl, by omega⟩
theorem rs_at {rs : List Rw} {L : List (List Int)} (h : rs.map Rw.zs = L) {d : Nat} (hd : d < rs.length) : ∃ r, rs[d]? = some r ∧ r.zs = lvAt L d := by
  refine ⟨rs[d], List.getElem?_eq_getElem hd, ?_⟩
  rw [← h]
  simp [lvAt, List.getD, hd]
theorem pow12 : ∀ d, d ≤ 13 → 2 ^ d ≤ 8192 := by decide

set_option maxRecDepth 20000 in
set_option maxHeartbeats 800000 in
theorem rollTree_any (a : Option Addr) (len cap : Nat) (ws : List Int) (s : ByteArray) (w : World) (hb : len ≤ 1048576) (hs : s.size ≤ maxLen) (hx : IsInts w a len ws) :
    Calls Tryd.prog 7 #[.slice a len cap, .string s] w (RetR w (rtV ws s)) := by
  obtain rfl := hx.1
  have hag := dy_agree ws
  cases h : treeOk ws with
  | false =>
    have h' := h
    unfold treeOk at h'
    rw [h'] at hag
    have hv : rtV ws s = (0, 0, false) := by unfold rtV rtOk; rw [h]; rfl
    rw [hv]
    have H := Lib.hid hag
    clear h h' hag hv
    go_enter Tryd.func7, Tryd.ntmps7
    go_wp2_with fail
    refine (isDyadic_any _ _ _ ws _ (by omega) hx).mono ?_
    rintro e w1 ⟨rfl, hb1⟩
    rw [H.out]
    go_wp2
    go_ret3
    exact ⟨rfl, hb1⟩
  | true =>
    have h' := h
    unfold treeOk at h'
    rw [h'] at hag
    cases hB : isB s with
    | false =>
      have hv : rtV ws s = (0, 0, false) := by unfold rtV rtOk; rw [hB, Bool.and_false]; rfl
      rw [hv]
      have H := Lib.hid (And.intro hag hB)
      clear h h' hag hv hB
      go_enter Tryd.func7, Tryd.ntmps7
      go_wp2_with fail
      refine (isDyadic_any _ _ _ ws _ (by omega) hx).mono ?_
      rintro e w1 ⟨rfl, hb1⟩
      rw [H.out.1]
      have Hb1 := Lib.hid hb1
      clear hb1
      go_wp2_with fail
      refine (isBits_any s _ hs).mono ?_
      rintro e w2 ⟨rfl, hb2⟩
      rw [H.out.2]
      have Hb2 := Lib.hid (bthen Hb1.out hb2)
      clear hb2
      go_wp2
      go_ret3
      exact ⟨rfl, Hb2.out⟩
    | true =>
      have hv : rtV ws s = rtGo (treeL ws) s (treeL ws).length 0 0 := by unfold rtV rtOk; rw [h, hB]; rfl
      obtain ⟨k, hk, hl, ht, hss, hn, h0⟩ := dy_level hb (by simpa using h')
      have htl : treeL ws = lvls ws k (k + 1) := by unfold treeL; rw [hl]; rfl
      have hll : (treeL ws).length = k + 1 := by rw [htl]; simp [lvls]
      rw [hll, htl] at hv
      obtain ⟨R, hR⟩ : ∃ R, rtV ws s = R := ⟨_, rfl⟩
      rw [hR] at hv ⊢
      have HV := Lib.hid hv.symm
      have HB := Lib.hid (And.intro hB hag)
      have H := Lib.hid (And.intro hn (And.intro hss h0))
      have HX := Lib.hid hx
      have HLe := Lib.hid (show ∀ d, (lvAt (lvls ws k (k + 1)) d).length ≤ ws.length from fun d => by
        unfold lvAt
        by_cases hd : d < (lvls ws k (k + 1)).length
        · simp only [List.getD, List.getElem?_eq_getElem hd, Option.getD_some]
          simp only [lvls, List.getElem_map]
          exact lvlTo_len _ _ _ _
        · have e : (lvls ws k (k + 1))[d]? = none := List.getElem?_eq_none (by omega)
          simp only [List.getD, e, Option.getD_none]
          exact Nat.zero_le _)
      have hsz := isB_size hB
      have hn16 := hn
      clear h h' hag hv hB hR hl ht hss hn h0 htl hll hx
      go_enter Tryd.func7, Tryd.ntmps7
      go_wp2_with fail
      refine (isDyadic_any _ _ _ ws _ (by omega) HX.out).mono ?_
      rintro e w1 ⟨rfl, hb1⟩
      rw [HB.out.2]
      have Hb1 := Lib.hid hb1
      clear hb1
      go_wp2_with fail
      refine (isBits_any s _ hs).mono ?_
      rintro e w2 ⟨rfl, hb2⟩
      rw [HB.out.1]
      have Hb2 := Lib.hid (bthen Hb1.out hb2)
      clear hb2
      go_wp2_with fail
      refine (leaves_any _ _ _ ws k _ (HX.out.below Hb2.out) hk H.out.1 H.out.2.1 H.out.2.2).mono ?_
      rintro e w3 ⟨go, co, rs, rfl, hrs, hO⟩
      have HO := Lib.hid (show OwnAt w w3 (llO go co rs ++ []) by rw [List.append_nil]; exact hO.from Hb2.out)
      have hrl : rs.length = k + 1 := by
        have := congrArg List.length hrs
        simpa [lvls] using this
      obtain ⟨L, hL⟩ : ∃ L, lvls ws k (k + 1) = L := ⟨_, rfl⟩
      rw [hL] at hrs HV HLe
      have HRS := Lib.hid (And.intro hrs hrl)
      clear hrs hO hL hrl
      go_wp2
      go_loopw [21, 7] (fun i x wr => ∃ (d v : Nat), d ≤ k + 1 ∧ d ≤ s.size ∧ v < 2 ^ d ∧ i = .int .i64 (d : Nat) ∧ x = .int .i64 (v : Nat) ∧ Hid (rtGo L s (k + 1 - d) d v = R) ∧ Hid (OwnAt w wr (llO go co rs ++ []))) (fun i _ _ => k + 1 - (intOf i).toNat)
      case atStart => exact ⟨0, 0, Nat.zero_le _, Nat.zero_le _, by decide, rfl, rfl, HV, HO⟩
      case round =>
        clear HO
        obtain ⟨d, v, hd, hds, hv2, rfl, rfl, HR, HO⟩ := hrel
        by_cases hlt : d < k + 1
        · obtain ⟨r, hr, hrz⟩ := rs_at HRS.out.1 (show d < rs.length by rw [HRS.out.2]; exact hlt)
          have c1 := llCell HO.out.1 d hr
          have i1 := HO.out.1.isInts (d + 1) (llRow d hr)
          have hle := HLe.out d
          have h1 := rt_hit hlt HR.out
          have h2 := rt_end hlt HR.out
          have h3 := rt_go hlt HR.out
          rw [← hrz] at hle h1 h2 h3
          obtain ⟨g, c, zs⟩ := r
          simp only at c1 i1 hle h1 h2 h3
          obtain ⟨n, hn⟩ : ∃ n, zs.length = n := ⟨_, rfl⟩
          rw [hn] at c1 i1 hle h1 h2 h3
          have hd0 : (0:Int) ≤ (d:Int) := by omega
          have hdk : (d:Int) < (k:Int) + 1 := by omega
          have hp := pow12 d (by omega)
          have hv8 : v ≤ 8192 := by omega
          have HL := Lib.hid (fun (w : World) => (length_any (some ⟨g, 0, none⟩) n c w).mono (R' := fun e w' => e = .returned (.int .i64 n) ∧ w' = w) (fun _ _ h => ⟨h.1, h.2.symm⟩))
          clear hr hrz hp
          by_cases hvn : v < n
          · obtain ⟨b1, o1, ha1, hc1⟩ := i1.at hvn
            simp only [Option.some.injEq, Addr.mk.injEq] at ha1
            obtain ⟨rfl, rfl, _⟩ := ha1
            rw [Nat.zero_add] at hc1
            have HE := Lib.hid (h1 hvn)
            have hv0 : (0:Int) ≤ (v:Int) := by omega
            have hvi : (v:Int) < (n:Int) := by omega
            clear h1 h2 h3 i1 hn hv2
            go_wp2_with fail
            refine (HL.out _).mono ?_
            rintro e w5 ⟨rfl, rfl⟩
            go_wp2
            go_ret3
            exact ⟨by rw [HE.out]; rfl, HO.out.2⟩
          · have hvi : ¬ (v:Int) < (n:Int) := by omega
            by_cases hde : d = s.size
            · have HE := Lib.hid (h2 hvn hde)
              clear h1 h2 h3 i1 hn hv2
              subst hde
              go_wp2_with fail
              refine (HL.out _).mono ?_
              rintro e w5 ⟨rfl, rfl⟩
              go_wp2
              go_ret3
              exact ⟨by rw [HE.out]; rfl, HO.out.2⟩
            · have HE := Lib.hid (h3 hvn hde)
              have hdl : d < s.size := by omega
              have hdi : ((d:Int) == (s.size:Int)) = false := by simp; omega
              have hds2 : (d:Int) < (s.size:Int) := by omega
              obtain ⟨e0, hb1⟩ := bN_byte HB.out.1 hdl
              obtain ⟨b, hbn⟩ : ∃ b, bN s d = b := ⟨_, rfl⟩
              rw [hbn] at e0 hb1 HE
              have hv3 : 2 * (v - n) + b < 2 ^ (d + 1) := by rw [Nat.pow_succ]; omega
              have HV3 := Lib.hid hv3
              obtain ⟨cb, hcb⟩ : ∃ cb : Int, (((s[d]'hdl).toNat : Nat) : Int) = cb := ⟨_, rfl⟩
              rw [hcb] at e0
              have hnv : (n:Int) ≤ (v:Int) := by omega
              have hn8 : n ≤ 16 := by omega
              clear h1 h2 h3 i1 hn hv2 hv3 hbn hde
              have hbb : b = 0 ∨ b = 1 := by omega
              rcases hbb with rfl | rfl
              · obtain rfl : cb = 48 := by simpa using e0
                clear e0
                go_wp2_with fail
                refine (HL.out _).mono ?_
                rintro e w5 ⟨rfl, rfl⟩
                go_wp2_with fail
                go_quiet ((go_at_call 17; (with_reducible exact Calls.quiet_of_same (HL.out _))))
                go_wp2
                go_roundw
                case rel => exact ⟨d + 1, 2 * (v - n), by omega, by omega, HV3.out, by go_num, by go_num, HE, Lib.hid (HO.out.drewN _)⟩
                case measure => simp [intOf]; omega
              · obtain rfl : cb = 49 := by simpa using e0
                clear e0
                go_wp2_with fail
                refine (HL.out _).mono ?_
                rintro e w5 ⟨rfl, rfl⟩
                go_wp2_with fail
                go_quiet ((go_at_call 17; (with_reducible exact Calls.quiet_of_same (HL.out _))))
                go_wp2
                go_roundw
                case rel => exact ⟨d + 1, 2 * (v - n) + 1, by omega, by omega, HV3.out, by go_num, by go_num, HE, Lib.hid (HO.out.drewN _)⟩
                case measure => simp [intOf]; omega
        · obtain rfl : d = k + 1 := by omega
          have HE := Lib.hid (rt_out HR.out)
          clear hv2
          go_wp2
          go_ret3
          exact ⟨by rw [HE.out]; rfl, HO.out.2⟩
set_option maxRecDepth 20000 in
set_option maxHeartbeats 800000 in
theorem l06Tree_any (a : Option Addr) (len cap : Nat) (ws : List Int) (k : Nat) (s : ByteArray) (w : World) (hx : IsInts w a len ws) (hk : k < 13) (hn : ws.length ≤ 16) (hs : levelOf (totalR ws) = (k : Nat)) (h0 : ∀ x ∈ ws, 0 ≤ x ∧ x ≤ 1000000) (hB : isB s = true) :
    Calls Tryd.prog 13 #[.slice a len cap, .string s] w (RetR w (rtGo (lvls ws k (k + 1)) s (k + 1) 0 0)) := by
  obtain rfl := hx.1
  obtain ⟨R, hR⟩ : ∃ R, rtGo (lvls ws k (k + 1)) s (k + 1) 0 0 = R := ⟨_, rfl⟩
  rw [hR]
  have HV := Lib.hid hR
  have HB := Lib.hid hB
  have H := Lib.hid (And.intro hs h0)
  have HX := Lib.hid hx
  have HLe := Lib.hid (show ∀ d, (lvAt (lvls ws k (k + 1)) d).length ≤ ws.length from fun d => by
    unfold lvAt
    by_cases hd : d < (lvls ws k (k + 1)).length
    · simp only [List.getD, List.getElem?_eq_getElem hd, Option.getD_some]
      simp only [lvls, List.getElem_map]
      exact lvlTo_len _ _ _ _
    · have e : (lvls ws k (k + 1))[d]? = none := List.getElem?_eq_none (by omega)
      simp only [List.getD, e, Option.getD_none]
      exact Nat.zero_le _)
  have hsz := isB_size hB
  clear hR hB hs h0 hx
  go_enter Tryd.func13, Tryd.ntmps13
  go_wp2_with fail
  refine (l06Levels_any _ _ _ ws k _ HX.out hk hn H.out.1 H.out.2).mono ?_
  rintro e w3 ⟨go, co, rs, rfl, hrs, hO⟩
  have HO := Lib.hid (show OwnAt w w3 (llO go co rs ++ []) by rw [List.append_nil]; exact hO)
  have hrl : rs.length = k + 1 := by
    have := congrArg List.length hrs
    simpa [lvls] using this
  obtain ⟨L, hL⟩ : ∃ L, lvls ws k (k + 1) = L := ⟨_, rfl⟩
  rw [hL] at hrs HV HLe
  have HRS := Lib.hid (And.intro hrs hrl)
  clear hrs hO hL hrl
  go_wp2
  go_loopw [9, 8] (fun i x wr => ∃ (d v : Nat), d ≤ k + 1 ∧ d ≤ s.size ∧ v < 2 ^ d ∧ i = .int .i64 (d : Nat) ∧ x = .int .i64 (v : Nat) ∧ Hid (rtGo L s (k + 1 - d) d v = R) ∧ Hid (OwnAt w wr (llO go co rs ++ []))) (fun i _ _ => k + 1 - (intOf i).toNat)
  case atStart => exact ⟨0, 0, Nat.zero_le _, Nat.zero_le _, by decide, rfl, rfl, HV, HO⟩
  case round =>
    clear HO
    obtain ⟨d, v, hd, hds, hv2, rfl, rfl, HR, HO⟩ := hrel
    by_cases hlt : d < k + 1
    · obtain ⟨r, hr, hrz⟩ := rs_at HRS.out.1 (show d < rs.length by rw [HRS.out.2]; exact hlt)
      have c1 := llCell HO.out.1 d hr
      have i1 := HO.out.1.isInts (d + 1) (llRow d hr)
      have hle := HLe.out d
      have h1 := rt_hit hlt HR.out
      have h2 := rt_end hlt HR.out
      have h3 := rt_go hlt HR.out
      rw [← hrz] at hle h1 h2 h3
      obtain ⟨g, c, zs⟩ := r
      simp only at c1 i1 hle h1 h2 h3
      obtain ⟨n, hn'⟩ : ∃ n, zs.length = n := ⟨_, rfl⟩
      rw [hn'] at c1 i1 hle h1 h2 h3
      have hd0 : (0:Int) ≤ (d:Int) := by omega
      have hdk : (d:Int) < (k:Int) + 1 := by omega
      have hp := pow12 d (by omega)
      have hv8 : v ≤ 8192 := by omega
      clear hr hrz hp
      by_cases hvn : v < n
      · obtain ⟨b1, o1, ha1, hc1⟩ := i1.at hvn
        simp only [Option.some.injEq, Addr.mk.injEq] at ha1
        obtain ⟨rfl, rfl, _⟩ := ha1
        rw [Nat.zero_add] at hc1
        have HE := Lib.hid (h1 hvn)
        have hv0 : (0:Int) ≤ (v:Int) := by omega
        have hvi : (v:Int) < (n:Int) := by omega
        clear h1 h2 h3 i1 hn' hv2
        go_wp2
        go_ret3
        exact ⟨by rw [HE.out]; rfl, HO.out.2⟩
      · have hvi : ¬ (v:Int) < (n:Int) := by omega
        by_cases hde : d = s.size
        · have HE := Lib.hid (h2 hvn hde)
          clear h1 h2 h3 i1 hn' hv2
          subst hde
          go_wp2
          go_ret3
          exact ⟨by rw [HE.out]; rfl, HO.out.2⟩
        · have HE := Lib.hid (h3 hvn hde)
          have hdl : d < s.size := by omega
          have hdi : ¬ (s.size:Int) ≤ (d:Int) := by omega
          have hds2 : (d:Int) < (s.size:Int) := by omega
          obtain ⟨e0, hb1⟩ := bN_byte HB.out hdl
          obtain ⟨b, hbn⟩ : ∃ b, bN s d = b := ⟨_, rfl⟩
          rw [hbn] at e0 hb1 HE
          have hv3 : 2 * (v - n) + b < 2 ^ (d + 1) := by rw [Nat.pow_succ]; omega
          have HV3 := Lib.hid hv3
          obtain ⟨cb, hcb⟩ : ∃ cb : Int, (((s[d]'hdl).toNat : Nat) : Int) = cb := ⟨_, rfl⟩
          rw [hcb] at e0
          have hnv : (n:Int) ≤ (v:Int) := by omega
          have hn8 : n ≤ 16 := by omega
          clear h1 h2 h3 i1 hn' hv2 hv3 hbn hde
          have hbb : b = 0 ∨ b = 1 := by omega
          rcases hbb with rfl | rfl
          · obtain rfl : cb = 48 := by simpa using e0
            clear e0
            go_wp2
            go_roundw
            case rel => exact ⟨d + 1, 2 * (v - n), by omega, by omega, HV3.out, by go_num, by go_num, HE, HO⟩
            case measure => simp [intOf]; omega
          · obtain rfl : cb = 49 := by simpa using e0
            clear e0
            go_wp2
            go_roundw
            case rel => exact ⟨d + 1, 2 * (v - n) + 1, by omega, by omega, HV3.out, by go_num, by go_num, HE, HO⟩
            case measure => simp [intOf]; omega
    · obtain rfl : d = k + 1 := by omega
      have HE := Lib.hid (rt_out HR.out)
      clear hv2
      go_wp2
      go_ret3
      exact ⟨by rw [HE.out]; rfl, HO.out.2⟩
set_option maxHeartbeats 400000 in
theorem specRollTree_any (a : Option Addr) (len cap : Nat) (ws : List Int) (s : ByteArray) (w : World) (hb : len ≤ 1048576) (hs : s.size ≤ maxLen) (hx : IsInts w a len ws) :
    Calls Tryd.prog 5 #[.slice a len cap, .string s] w (RetR w (rtV ws s)) := by
  obtain rfl := hx.1
  cases h : treeOk ws with
  | false =>
    have h' : ¬ 0 ≤ levelOf (totalR ws) := by simpa [treeOk] using h
    obtain ⟨t, ht⟩ : ∃ t, levelOf (totalR ws) = t := ⟨_, rfl⟩
    rw [ht] at h'
    have hv : rtV ws s = (0, 0, false) := by unfold rtV rtOk; rw [h]; rfl
    rw [hv]
    have H := Lib.hid ht
    clear h ht hv
    go_enter Tryd.func5, Tryd.ntmps5
    go_wp2_with fail
    refine (l06Level_any _ _ _ ws _ (by omega) hx).mono ?_
    rintro e w1 ⟨rfl, rfl⟩
    rw [H.out]
    go_wp2
    go_ret3
    exact ⟨rfl, Below.refl _ _⟩
  | true =>
    have h' : 0 ≤ levelOf (totalR ws) := by simpa [treeOk] using h
    obtain ⟨k, hk, hl, ht, hss, hn, h0⟩ := dy_level hb h'
    have hk0 : (0:Int) ≤ (k:Int) := by omega
    cases hB : isB s with
    | false =>
      have hv : rtV ws s = (0, 0, false) := by unfold rtV rtOk; rw [hB, Bool.and_false]; rfl
      rw [hv]
      have H := Lib.hid (And.intro hl hB)
      clear h h' hl ht hss hn h0 hv hB
      go_enter Tryd.func5, Tryd.ntmps5
      go_wp2_with fail
      refine (l06Level_any _ _ _ ws _ (by omega) hx).mono ?_
      rintro e w1 ⟨rfl, rfl⟩
      rw [H.out.1]
      go_wp2_with fail
      refine (l01Bits_any s _ hs).mono ?_
      rintro e w2 ⟨rfl, rfl⟩
      rw [H.out.2]
      go_wp2
      go_ret3
      exact ⟨rfl, Below.refl _ _⟩
    | true =>
      have hv : rtV ws s = rtGo (treeL ws) s (treeL ws).length 0 0 := by unfold rtV rtOk; rw [h, hB]; rfl
      have htl : treeL ws = lvls ws k (k + 1) := by unfold treeL; rw [hl]; rfl
      have hll : (treeL ws).length = k + 1 := by rw [htl]; simp [lvls]
      rw [hll, htl] at hv
      rw [hv]
      have HC := Lib.hid (fun (hx : IsInts w a ws.length ws) => l06Tree_any a _ cap ws k s w hx hk hn hl h0 hB)
      obtain ⟨R, hR⟩ : ∃ R, rtGo (lvls ws k (k + 1)) s (k + 1) 0 0 = R := ⟨_, rfl⟩
      rw [hR] at HC ⊢
      unfold RetR at HC ⊢
      obtain ⟨r1, r2, r3⟩ := R
      simp only at HC ⊢
      have H := Lib.hid (And.intro hl hB)
      clear h h' hl ht hss hn h0 hv hB hR htl hll
      go_enter Tryd.func5, Tryd.ntmps5
      go_wp2_with fail
      refine (l06Level_any _ _ _ ws _ (by omega) hx).mono ?_
      rintro e w1 ⟨rfl, rfl⟩
      rw [H.out.1]
      go_wp2_with fail
      refine (l01Bits_any s _ hs).mono ?_
      rintro e w2 ⟨rfl, rfl⟩
      rw [H.out.2]
      go_wp2_with fail
      refine (HC.out hx).mono ?_
      rintro e w3 ⟨rfl, hb3⟩
      have Hb3 := Lib.hid hb3
      clear hb3
      go_wp2
      go_ret3
      exact ⟨rfl, Hb3.out⟩
set_option maxHeartbeats 1600000 in
theorem fnExactRollTree_walk (a : Option Addr) (len cap : Nat) (ws : List Int) (s : ByteArray) (w : World) (hs : s.size ≤ maxLen) (hx : IsInts w a len ws) :
    Calls Tryd.prog 3 #[.slice a len cap, .string s] w fun e w' => e = .returned (.bool true) ∧ Below w.heap.size w w' := by
  by_cases hbig : 1048576 < len
  · have : (1048576 : Int) < (len : Int) := by omega
    go_enter Tryd.func3, Tryd.ntmps3
    go_wp2
    go_ret
    exact ⟨rfl, Below.refl _ _⟩
  · have : ¬ (1048576 : Int) < (len : Int) := by omega
    by_cases hbs : 1048576 < s.size
    · have : (1048576 : Int) < (s.size : Int) := by omega
      go_enter Tryd.func3, Tryd.ntmps3
      go_wp2
      go_ret
      exact ⟨rfl, Below.refl _ _⟩
    · have : ¬ (1048576 : Int) < (s.size : Int) := by omega
      obtain rfl := hx.1
      have hb : ws.length ≤ 1048576 := by omega
      have HI := Lib.hid (fun (a : Option Addr) (cap : Nat) (w : World) (hx : IsInts w a ws.length ws) => rollTree_any a _ cap ws s w hb hs hx)
      have HS := Lib.hid (fun (a : Option Addr) (cap : Nat) (w : World) (hx : IsInts w a ws.length ws) => specRollTree_any a _ cap ws s w hb hs hx)
      unfold RetR at HI HS
      obtain ⟨R, hR⟩ : ∃ R, rtV ws s = R := ⟨_, rfl⟩
      rw [hR] at HI HS
      clear hR
      obtain ⟨r1, r2, r3⟩ := R
      simp only at HI HS
      go_enter Tryd.func3, Tryd.ntmps3
      go_wp2_with fail
      refine (copy_own _ _ _ ws _ _ _ (OwnAt.start w) hb hx).mono ?_
      rintro e w1 ⟨q1, rfl, hz1, h1⟩
      have H1 := Lib.hid (And.intro hz1 h1)
      have hi1 := h1.1.isInts 0 rfl
      rw [hz1] at hi1
      clear h1 hz1
      go_wp2_with fail
      refine (HS.out _ _ _ hi1).mono ?_
      rintro e w2 ⟨rfl, hb2⟩
      have H2 := Lib.hid (H1.out.2.ret hb2)
      clear hb2 hi1
      go_wp2_with fail
      refine (copy_own _ _ _ ws _ _ _ H2.out hb hx).mono ?_
      rintro e w3 ⟨q3, rfl, hz3, h3⟩
      have H3 := Lib.hid (And.intro hz3 h3)
      have hi3 := h3.1.isInts 0 rfl
      rw [hz3] at hi3
      clear h3 hz3
      go_wp2_with fail
      refine (HI.out _ _ _ hi3).mono ?_
      rintro e w4 ⟨rfl, hb4⟩
      have H4 := Lib.hid (H3.out.2.ret hb4)
      clear hb4 hi3
      go_wp2_with fail
      refine (copy_own _ _ _ ws _ _ _ H4.out hb hx).mono ?_
      rintro e w5 ⟨q5, rfl, hz5, h5⟩
      have H5 := Lib.hid (And.intro hz5 h5)
      clear h5 hz5
      go_wp2_with fail
      refine (eq_own 1 0 q3 q5 _ _ _ _ H5.out.2 (by rw [H3.out.1]) (by omega) (H3.out.1.trans H5.out.1.symm) rfl rfl).mono ?_
      rintro e w6 ⟨rfl, h6⟩
      have H6 := Lib.hid h6
      clear h6
      go_wp2_with fail
      go_ret
      exact ⟨rfl, H6.out.2⟩
end Go.Proofs.YtjkbldkcjjaonaaDoor

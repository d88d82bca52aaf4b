import Derived.Test.YtddmglgogjaajaaNest
import Derived.Test.YtddmglgogjaajaaDyadLaw
import Derived.Test.YtddmglgogjaajaaShelf
import Derived.Deep.LoopGhost
import Derived.Deep.DeepCutAuto
/- The leaves of the tree of dyadic weights: the program's and the reference's. -/
namespace Go.Proofs.Ytddmglgogjaajaa
open Go.RowKit
set_option linter.unusedVariables false

def bitAt (ws : List Int) (s i : Nat) : Bool := bits .and .i64 (ws.getD i 0 / (2 : Int) ^ s) 1 == 1
/-- The faces of the leaves of level d, k being the greatest level. -/
def lvlTo (ws : List Int) (k d n : Nat) : List Int := ((List.range n).filter (bitAt ws (k - d))).map (fun (i : Nat) => (i : Int))
def lvl (ws : List Int) (k d : Nat) : List Int := lvlTo ws k d ws.length
def lvls (ws : List Int) (k : Nat) (d : Nat) : List (List Int) := (List.range d).map (lvl ws k)
theorem lvlTo_yes {ws : List Int} {k d n : Nat} (h : bitAt ws (k - d) n = true) : lvlTo ws k d (n + 1) = lvlTo ws k d n ++ [(n : Int)] := by
  simp [lvlTo, List.range_succ, List.filter_append, h]
theorem lvlTo_no {ws : List Int} {k d n : Nat} (h : bitAt ws (k - d) n = false) : lvlTo ws k d (n + 1) = lvlTo ws k d n := by
  simp [lvlTo, List.range_succ, List.filter_append, h]
theorem lvlTo_len (ws : List Int) (k d n : Nat) : (lvlTo ws k d n).length ≤ n := by
  simp only [lvlTo, List.length_map]
  exact Nat.le_trans (List.length_filter_le _ _) (by simp)
theorem lvls_succ (ws : List Int) (k d : Nat) : lvls ws k (d + 1) = lvls ws k d ++ [lvl ws k d] := by simp [lvls, List.range_succ]

/-- The greatest level of dyadic weights. -/
theorem dy_level {ws : List Int} (hl : ws.length ≤ 1048576) (h : 0 ≤ levelOf (totalR ws)) : ∃ k, k < 13 ∧ levelOf (totalR ws) = (k : Nat) ∧ totalR ws = (2 : Int) ^ k ∧ sumL ws = (2 : Int) ^ k ∧ ws.length ≤ 16 ∧ (∀ x ∈ ws, 0 ≤ x ∧ x ≤ 1000000) := by
  unfold levelOf at h ⊢
  cases hf : (List.range 13).find? (fun k => totalR ws == (2 : Int) ^ k) with
  | none => rw [hf] at h; simp at h
  | some k =>
    obtain ⟨h1, h2, _⟩ := List.find?_range_eq_some.1 hf
    have ht : totalR ws = (2 : Int) ^ k := by simpa using h1
    have hk : k < 13 := by simpa using h2
    refine ⟨k, hk, rfl, ht, ?_⟩
    have hp := (pow_small k hk).2
    have ht0 := ht
    unfold totalR at ht0
    cases hc : (inR ws.length 1 16 && allR ws 0 1000000) with
    | false => rw [hc] at ht0; simp at ht0; omega
    | true =>
      rw [hc] at ht0
      simp only [Bool.and_eq_true] at hc
      have hs := sumL_eq ws hc.2 hl
      have hlen := hc.1
      simp only [inR, Bool.and_eq_true, decide_eq_true_eq] at hlen
      refine ⟨?_, by omega, fun x hx => ?_⟩
      · rw [hs]
        simp only [if_true] at ht0
        split at ht0
        · omega
        · exact ht0
      · have := List.all_eq_true.1 hc.2 x hx
        simpa [inR] using this

theorem bitLen_pow : ∀ k, k < 13 → Lib.bitLen ((2 : Int) ^ k).toNat = k + 1 := by decide

theorem degree_pow (k : Nat) (hk : k < 13) (w : World) :
    Calls Try.prog 125 #[.int .i64 ((2 : Int) ^ k)] w fun e w' => e = .returned (.int .i64 (k : Nat)) ∧ w = w' := by
  have hp := pow_small k hk
  have hb := bitLen_pow k hk
  obtain ⟨x, hx⟩ : ∃ x, (2 : Int) ^ k = x := ⟨_, rfl⟩
  rw [hx] at hp hb ⊢
  have Hb := Lib.hid hb
  clear hb hx
  have hu : IntKind.u64.wrap x = x := by rw [IntKind.wrap_u64]; omega
  go_enter Try.func125, Try.ntmps125
  go_wp2_with fail
  refine (Try.bits_Len64 _ _ (by omega) (by omega)).mono ?_
  rintro e w' ⟨rfl, rfl⟩
  rw [Hb.out]
  go_wp2
  go_ret
  exact ⟨by simp, rfl⟩

def RetLv (w : World) (ws : List Int) (k : Nat) (e : Ending) (w' : World) : Prop :=
  ∃ go co rs, e = .returned (.slice (some ⟨go, 0, none⟩) (k + 1) co) ∧ rs.map Rw.zs = lvls ws k (k + 1) ∧ OwnAt w w' (llO go co rs)

set_option maxHeartbeats 1600000 in
theorem leaves_any (a : Option Addr) (len cap : Nat) (ws : List Int) (k : Nat) (w : World) (hx : IsInts w a len ws) (hk : k < 13) (hn : ws.length ≤ 16) (hs : sumL ws = (2 : Int) ^ k) (h0 : ∀ x ∈ ws, 0 ≤ x ∧ x ≤ 1000000) :
    Calls Try.prog 62 #[.slice a len cap] w (RetLv w ws k) := by
  obtain rfl := hx.1
  have Hs := Lib.hid hs
  clear hs
  go_enter Try.func62, Try.ntmps62
  go_wp2_with fail
  refine (totalOf_any _ _ _ ws _ (by omega) hx).mono ?_
  rintro e w' ⟨rfl, rfl⟩
  rw [Hs.out]
  go_wp2_with fail
  refine (degree_pow k hk _).mono ?_
  rintro e w' ⟨rfl, rfl⟩
  go_wp2_with fail
  have hO : OwnAt w (w.alloc (.cells #[] 30)) (llO w.heap.size 0 []) := (OwnAt.start w).new ⟨#[], rfl, rfl, by simp, by simp [maxLen], by simp⟩
  have HO := Lib.hid hO
  clear hO
  go_loopg [15, 4] (k + 1) (fun g v15 v4 wr => ∃ d go co rs, d ≤ k + 1 ∧ g = k + 1 - d ∧ v15 = .int .i64 (d : Nat) ∧ v4 = .slice (some ⟨go, 0, none⟩) d co ∧ rs.map Rw.zs = lvls ws k d ∧ OwnAt w wr (llO go co rs))
  case atStart => exact ⟨0, _, 0, [], Nat.zero_le _, rfl, rfl, rfl, rfl, HO.out⟩
  case round =>
    obtain ⟨d, go, co, rs, hd, rfl, rfl, rfl, hrs, hO⟩ := hrel
    have HR := Lib.hid hrs
    have HO := Lib.hid hO
    clear hO hrs
    by_cases hlt : d < k + 1
    · have hd0 : (0:Int) ≤ (d:Int) := by omega
      have hdk : (d:Int) ≤ (k:Int) := by omega
      have hdk1 : (d:Int) < (k:Int) + 1 := by omega
      go_wp2_with fail
      have hO1 : OwnAt w (wr.alloc (.cells #[] 2)) (Rw.o ⟨wr.heap.size, 0, []⟩ :: llO go co rs) := HO.out.new ⟨#[], rfl, rfl, by simp, by simp [maxLen], by simp⟩
      have HO1 := Lib.hid hO1
      clear hO1
      go_loopg [21, 6] (ws.length) (fun g v21 v6 wx => ∃ i r, i ≤ ws.length ∧ g = ws.length - i ∧ v21 = .int .i64 (i : Nat) ∧ v6 = .slice (some ⟨r.g, 0, none⟩) r.zs.length r.c ∧ r.zs = lvlTo ws k d i ∧ OwnAt w wx (Rw.o r :: llO go co rs))
      case atStart => exact ⟨0, ⟨wr.heap.size, 0, []⟩, Nat.zero_le _, rfl, rfl, rfl, rfl, HO1.out⟩
      case round =>
        obtain ⟨i, r, hi, rfl, rfl, rfl, hz, hO2⟩ := hrel
        by_cases hil : i < ws.length
        · obtain ⟨b, off, ha, h1⟩ := (hO2.arg hx).at hil
          subst ha
          have hw := h0 _ (List.getElem_mem hil)
          rw [← getD_eq _ _ hil] at hw
          have hi0 : (0:Int) ≤ (i:Int) := by omega
          have hil' : (i:Int) < (ws.length:Int) := by omega
          have HZ := Lib.hid hz
          have HO2 := Lib.hid hO2
          have hB := hO2.2.size
          have hrow : (wr.alloc (.cells #[.int .i64 (i : Nat)] 2)).ownsRow w.heap.size 2 1 (.slice (some ⟨r.g, 0, none⟩) r.zs.length r.c) r.zs.length (r.zs.map (Value.int .i64)) := by
            have := ((hO2.1.alloc (.cells #[.int .i64 (i : Nat)] 2)).rowAt 0 rfl).1
            rwa [List.length_map] at this
          have Hrow := Lib.hid hrow
          have hrl : r.zs.length ≤ 16 := by have := lvlTo_len ws k d i; rw [← hz] at this; omega
          cases hbit : bitAt ws (k - d) i with
          | true =>
            have HB := Lib.hid hbit
            unfold bitAt at hbit
            obtain ⟨x, hxe⟩ : ∃ x, ws.getD i 0 = x := ⟨_, rfl⟩
            rw [hxe] at h1 hw hbit
            clear hz hO2 hrow hxe
            go_wp2_with (at_builtin; refine wpList_ap1 rfl (.tmp 33) (.tmp 35) 30 rfl w.heap.size 2 (.int .i64 0) 8 Try.underlying30 Try.infoI rfl _ r.zs.length _ rfl Hrow.out wr.heap.size (.int .i64 (i : Nat)) rfl (by go_simp) rfl (by omega) (by omega) (by simp only [alloc_size]; omega) ?_)
            intro v' wy hown hgrow hat
            obtain ⟨g2, c2, rfl, O2⟩ := (HO2.out.1.alloc (.cells #[.int .i64 (i : Nat)] 2)).ap 0 rfl hown hgrow (by rw [alloc_size]; exact hat)
            have hby : Below w.heap.size w wy := (HO2.out.2.alloc hB _).grown hgrow (by simp only [alloc_size]; omega) (fun j hj => by
              have := (HO2.out.1.lt (List.mem_of_getElem? (i := 0) rfl)).1
              simp [Value.ownBlock] at hj; simp [Rw.o] at this; omega)
            have HO3 := Lib.hid (And.intro O2 hby)
            clear hown hgrow hat O2 hby
            go_wp2
            go_roundg (ws.length - (i + 1))
            case measure => omega
            case rel =>
              refine ⟨i + 1, ⟨g2, c2, r.zs ++ [(i : Int)]⟩, by omega, rfl, by go_num, by simp, by rw [lvlTo_yes HB.out, HZ.out], ?_, HO3.out.2⟩
              have := HO3.out.1
              simpa [Rw.o] using this
          | false =>
            have HB := Lib.hid hbit
            unfold bitAt at hbit
            obtain ⟨x, hxe⟩ : ∃ x, ws.getD i 0 = x := ⟨_, rfl⟩
            rw [hxe] at h1 hw hbit
            clear hz hO2 hrow hxe
            go_wp2
            go_roundg (ws.length - (i + 1))
            case measure => omega
            case rel => exact ⟨i + 1, r, by omega, rfl, by go_num, rfl, by rw [lvlTo_no HB.out, HZ.out], HO2.out⟩
        · have hin : i = ws.length := by omega
          subst hin
          have HZ := Lib.hid hz
          have HO2 := Lib.hid hO2
          have hB := hO2.2.size
          have hrsl : rs.length = d := by
            have := congrArg List.length HR.out
            simpa [lvls] using this
          have hrow : (wr.alloc (.cells #[r.v] 30)).ownsRow w.heap.size 30 1 (.slice (some ⟨go, 0, none⟩) d co) d (rs.map Rw.v) := by
            have := ((hO2.1.alloc (.cells #[r.v] 30)).rowAt 1 rfl).1
            rwa [List.length_map, hrsl] at this
          have Hrow := Lib.hid (And.intro hrow hrsl)
          clear hz hO2 hrow hrsl
          go_wp2_with (at_builtin; refine wpList_ap1 rfl (.tmp 38) (.tmp 40) 69 rfl w.heap.size 30 (.slice none 0 0) 24 Try.underlying69 Try.infoR rfl _ d _ rfl Hrow.out.1 wr.heap.size r.v rfl (by unfold Rw.v; go_simp) rfl (by omega) (by omega) (by simp only [alloc_size]; omega) ?_)
          intro v' wy hown hgrow hat
          obtain ⟨go2, co2, rfl, O2⟩ := (HO2.out.1.alloc (.cells #[r.v] 30)).ap 1 rfl hown hgrow (by rw [alloc_size]; exact hat)
          have hby : Below w.heap.size w wy := (HO2.out.2.alloc hB _).grown hgrow (by simp only [alloc_size]; omega) (fun j hj => by
            have := (HO2.out.1.lt (List.mem_of_getElem? (i := 1) rfl)).1
            simp [Value.ownBlock] at hj; simp at this; omega)
          have hO3 : OwnAt w wy (llO go2 co2 (rs ++ [r])) := ⟨O2.perm (by
            unfold llO
            rw [List.map_append, List.map_append]
            exact (List.Perm.swap _ _ _).trans (.cons _ (List.perm_append_comm (l₁ := [r.o])))), hby⟩
          have HO3 := Lib.hid hO3
          clear hown hgrow hat O2 hby hO3
          go_wp2
          go_roundg (k + 1 - (d + 1))
          case measure => omega
          case rel =>
            refine ⟨d + 1, go2, co2, rs ++ [r], by omega, rfl, by go_num, rfl, ?_, HO3.out⟩
            rw [List.map_append, HR.out, lvls_succ, List.map_singleton, HZ.out]
            rfl
    · have hdk : d = k + 1 := by omega
      subst hdk
      go_wp2
      go_ret
      exact ⟨go, co, rs, rfl, HR.out, HO.out⟩
set_option maxHeartbeats 1600000 in
theorem l06Levels_any (a : Option Addr) (len cap : Nat) (ws : List Int) (k : Nat) (w : World) (hx : IsInts w a len ws) (hk : k < 13) (hn : ws.length ≤ 16) (hs : levelOf (totalR ws) = (k : Nat)) (h0 : ∀ x ∈ ws, 0 ≤ x ∧ x ≤ 1000000) :
    Calls Try.prog 60 #[.slice a len cap] w (RetLv w ws k) := by
  obtain rfl := hx.1
  have Hs := Lib.hid hs
  clear hs
  go_enter Try.func60, Try.ntmps60
  go_wp2_with fail
  refine (l06Level_any _ _ _ ws _ (by omega) hx).mono ?_
  rintro e w' ⟨rfl, rfl⟩
  rw [Hs.out]
  go_wp2_with fail
  have hO : OwnAt w (w.alloc (.cells #[] 30)) (llO w.heap.size 0 []) := (OwnAt.start w).new ⟨#[], rfl, rfl, by simp, by simp [maxLen], by simp⟩
  have HO := Lib.hid hO
  clear hO
  go_loopg [5, 4] (k + 1) (fun g v15 v4 wr => ∃ d go co rs, d ≤ k + 1 ∧ g = k + 1 - d ∧ v15 = .int .i64 (d : Nat) ∧ v4 = .slice (some ⟨go, 0, none⟩) d co ∧ rs.map Rw.zs = lvls ws k d ∧ OwnAt w wr (llO go co rs))
  case atStart => exact ⟨0, _, 0, [], Nat.zero_le _, rfl, rfl, rfl, rfl, HO.out⟩
  case round =>
    obtain ⟨d, go, co, rs, hd, rfl, rfl, rfl, hrs, hO⟩ := hrel
    have HR := Lib.hid hrs
    have HO := Lib.hid hO
    clear hO hrs
    by_cases hlt : d < k + 1
    · have hd0 : (0:Int) ≤ (d:Int) := by omega
      have hdk : (d:Int) ≤ (k:Int) := by omega
      have hdk1 : (d:Int) ≤ (k:Int) := by omega
      go_wp2_with fail
      have hO1 : OwnAt w (wr.alloc (.cells #[] 2)) (Rw.o ⟨wr.heap.size, 0, []⟩ :: llO go co rs) := HO.out.new ⟨#[], rfl, rfl, by simp, by simp [maxLen], by simp⟩
      have HO1 := Lib.hid hO1
      clear hO1
      go_loopg [7, 6] (ws.length) (fun g v21 v6 wx => ∃ i r, i ≤ ws.length ∧ g = ws.length - i ∧ v21 = .int .i64 (i : Nat) ∧ v6 = .slice (some ⟨r.g, 0, none⟩) r.zs.length r.c ∧ r.zs = lvlTo ws k d i ∧ OwnAt w wx (Rw.o r :: llO go co rs))
      case atStart => exact ⟨0, ⟨wr.heap.size, 0, []⟩, Nat.zero_le _, rfl, rfl, rfl, rfl, HO1.out⟩
      case round =>
        obtain ⟨i, r, hi, rfl, rfl, rfl, hz, hO2⟩ := hrel
        by_cases hil : i < ws.length
        · obtain ⟨b, off, ha, h1⟩ := (hO2.arg hx).at hil
          subst ha
          have hw := h0 _ (List.getElem_mem hil)
          rw [← getD_eq _ _ hil] at hw
          have hi0 : (0:Int) ≤ (i:Int) := by omega
          have hil' : (i:Int) < (ws.length:Int) := by omega
          have HZ := Lib.hid hz
          have HO2 := Lib.hid hO2
          have hB := hO2.2.size
          have hrow : (wr.alloc (.cells #[.int .i64 (i : Nat)] 2)).ownsRow w.heap.size 2 1 (.slice (some ⟨r.g, 0, none⟩) r.zs.length r.c) r.zs.length (r.zs.map (Value.int .i64)) := by
            have := ((hO2.1.alloc (.cells #[.int .i64 (i : Nat)] 2)).rowAt 0 rfl).1
            rwa [List.length_map] at this
          have Hrow := Lib.hid hrow
          have hrl : r.zs.length ≤ 16 := by have := lvlTo_len ws k d i; rw [← hz] at this; omega
          cases hbit : bitAt ws (k - d) i with
          | true =>
            have HB := Lib.hid hbit
            unfold bitAt at hbit
            obtain ⟨x, hxe⟩ : ∃ x, ws.getD i 0 = x := ⟨_, rfl⟩
            rw [hxe] at h1 hw hbit
            clear hz hO2 hrow hxe
            go_wp2_with (at_builtin; refine wpList_ap1 rfl (.tmp 34) (.tmp 36) 30 rfl w.heap.size 2 (.int .i64 0) 8 Try.underlying30 Try.infoI rfl _ r.zs.length _ rfl Hrow.out wr.heap.size (.int .i64 (i : Nat)) rfl (by go_simp) rfl (by omega) (by omega) (by simp only [alloc_size]; omega) ?_)
            intro v' wy hown hgrow hat
            obtain ⟨g2, c2, rfl, O2⟩ := (HO2.out.1.alloc (.cells #[.int .i64 (i : Nat)] 2)).ap 0 rfl hown hgrow (by rw [alloc_size]; exact hat)
            have hby : Below w.heap.size w wy := (HO2.out.2.alloc hB _).grown hgrow (by simp only [alloc_size]; omega) (fun j hj => by
              have := (HO2.out.1.lt (List.mem_of_getElem? (i := 0) rfl)).1
              simp [Value.ownBlock] at hj; simp [Rw.o] at this; omega)
            have HO3 := Lib.hid (And.intro O2 hby)
            clear hown hgrow hat O2 hby
            go_wp2
            go_roundg (ws.length - (i + 1))
            case measure => omega
            case rel =>
              refine ⟨i + 1, ⟨g2, c2, r.zs ++ [(i : Int)]⟩, by omega, rfl, by go_num, by simp, by rw [lvlTo_yes HB.out, HZ.out], ?_, HO3.out.2⟩
              have := HO3.out.1
              simpa [Rw.o] using this
          | false =>
            have HB := Lib.hid hbit
            unfold bitAt at hbit
            obtain ⟨x, hxe⟩ : ∃ x, ws.getD i 0 = x := ⟨_, rfl⟩
            rw [hxe] at h1 hw hbit
            clear hz hO2 hrow hxe
            go_wp2
            go_roundg (ws.length - (i + 1))
            case measure => omega
            case rel => exact ⟨i + 1, r, by omega, rfl, by go_num, rfl, by rw [lvlTo_no HB.out, HZ.out], HO2.out⟩
        · have hin : i = ws.length := by omega
          subst hin
          have HZ := Lib.hid hz
          have HO2 := Lib.hid hO2
          have hB := hO2.2.size
          have hrsl : rs.length = d := by
            have := congrArg List.length HR.out
            simpa [lvls] using this
          have hrow : (wr.alloc (.cells #[r.v] 30)).ownsRow w.heap.size 30 1 (.slice (some ⟨go, 0, none⟩) d co) d (rs.map Rw.v) := by
            have := ((hO2.1.alloc (.cells #[r.v] 30)).rowAt 1 rfl).1
            rwa [List.length_map, hrsl] at this
          have Hrow := Lib.hid (And.intro hrow hrsl)
          clear hz hO2 hrow hrsl
          go_wp2_with (at_builtin; refine wpList_ap1 rfl (.tmp 38) (.tmp 40) 69 rfl w.heap.size 30 (.slice none 0 0) 24 Try.underlying69 Try.infoR rfl _ d _ rfl Hrow.out.1 wr.heap.size r.v rfl (by unfold Rw.v; go_simp) rfl (by omega) (by omega) (by simp only [alloc_size]; omega) ?_)
          intro v' wy hown hgrow hat
          obtain ⟨go2, co2, rfl, O2⟩ := (HO2.out.1.alloc (.cells #[r.v] 30)).ap 1 rfl hown hgrow (by rw [alloc_size]; exact hat)
          have hby : Below w.heap.size w wy := (HO2.out.2.alloc hB _).grown hgrow (by simp only [alloc_size]; omega) (fun j hj => by
            have := (HO2.out.1.lt (List.mem_of_getElem? (i := 1) rfl)).1
            simp [Value.ownBlock] at hj; simp at this; omega)
          have hO3 : OwnAt w wy (llO go2 co2 (rs ++ [r])) := ⟨O2.perm (by
            unfold llO
            rw [List.map_append, List.map_append]
            exact (List.Perm.swap _ _ _).trans (.cons _ (List.perm_append_comm (l₁ := [r.o])))), hby⟩
          have HO3 := Lib.hid hO3
          clear hown hgrow hat O2 hby hO3
          go_wp2
          go_roundg (k + 1 - (d + 1))
          case measure => omega
          case rel =>
            refine ⟨d + 1, go2, co2, rs ++ [r], by omega, rfl, by go_num, rfl, ?_, HO3.out⟩
            rw [List.map_append, HR.out, lvls_succ, List.map_singleton, HZ.out]
            rfl
    · have hdk : d = k + 1 := by omega
      subst hdk
      go_wp2
      go_ret
      exact ⟨go, co, rs, rfl, HR.out, HO.out⟩

def treeOk (ws : List Int) : Bool := decide ((0:Int) ≤ levelOf (totalR ws))
def treeL (ws : List Int) : List (List Int) := lvls ws (levelOf (totalR ws)).toNat ((levelOf (totalR ws)).toNat + 1)
/-- What comes back: the levels, or nothing. -/
def RetTr (w : World) (ws : List Int) (e : Ending) (w' : World) : Prop :=
  (treeOk ws = false ∧ e = .returned (.tuple #[.slice none 0 0, .bool false]) ∧ Below w.heap.size w w') ∨
  (treeOk ws = true ∧ ∃ go co rs, e = .returned (.tuple #[.slice (some ⟨go, 0, none⟩) rs.length co, .bool true]) ∧ rs.map Rw.zs = treeL ws ∧ OwnAt w w' (llO go co rs))

theorem OwnAt.from {w w1 w' : World} {l : List (Nat × (Obj → Prop))} (h : OwnAt w1 w' l) (hb : Below w.heap.size w w1) : OwnAt w w' l := ⟨h.1.mono hb.size, bthen hb h.2⟩

end Go.Proofs.Ytddmglgogjaajaa

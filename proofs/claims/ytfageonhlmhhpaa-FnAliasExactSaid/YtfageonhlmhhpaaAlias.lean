import Derived.Test.YtfageonhlmhhpaaWts
import Derived.Test.YtfageonhlmhhpaaAliasP
import Derived.Test.YtfageonhlmhhpaaOwn
import Derived.BigRegion
import Derived.Deep.LoopGhost
import Derived.Deep.RegionLaw
import Derived.Deep.RegionLawGrows
import Derived.Deep.DeepCutAuto
import Derived.Outline
/- The program's alias table: what the closures answer, what the search finds, what the loop leaves. -/
namespace Go.Proofs.Ytfageonhlmhhpaa
open Go.RowKit
set_option linter.unusedVariables false

/-- The state in memory: boxes for the total, the shares, the marks; rows for shares, cuts, other faces, marks. -/
def alL (ba bs bd gs gc go gd cs cc co cd k n : Nat) (T : Int) (s : Al.St) : List (Nat × (Obj → Prop)) :=
  [(ba, boxO 2 (.int .i64 T)), (bs, boxO 22 (.slice (some ⟨gs, 0, none⟩) k cs)), (bd, boxO 54 (.slice (some ⟨gd, 0, none⟩) n cd)),
   (gs, rowO 2 cs (s.sh.map (Value.int .i64))), (gc, rowO 2 cc (s.ct.map (Value.int .i64))), (go, rowO 2 co (s.ot.map (Value.int .i64))), (gd, rowO 4 cd (s.dn.map Value.bool))]

def RetQ (w : World) (v : Value) (e : Ending) (w' : World) : Prop := e = .returned v ∧ ∃ q, w' = w.drewN q

set_option maxHeartbeats 400000 in
theorem lowLit_any (w : World) (B n : Nat) (T : Int) (ba bs bd gs gc go gd cs cc co cd : Nat) (s : Al.St) (h : Owns w B (alL ba bs bd gs gc go gd cs cc co cd n n T s)) (hsl : s.sh.length = n) (hdl : s.dn.length = n) (i : Nat) (hi : i < n) (hn : n ≤ 16) :
    Calls Try.prog 43 #[.int .i64 i, .pointer (some ⟨bd, 0, none⟩), .pointer (some ⟨bs, 0, none⟩), .pointer (some ⟨ba, 0, none⟩)] w (RetQ w (.bool (Al.isLow T s i))) := by
  have h1 := (h.boxAt 0 rfl).1
  have h2 := (h.boxAt 1 rfl).1
  have h3 := (h.boxAt 2 rfl).1
  have h4 := h.intAt 3 rfl i (by omega)
  have h5 := h.boolAt 6 rfl i (by omega)
  clear hsl hdl
  have hi0 : (0 : Int) ≤ (i : Int) := by omega
  have hi1 : (i : Int) < (n : Int) := by omega
  clear h
  unfold Al.isLow
  cases hd : s.dn.getD i false with
  | true =>
    rw [hd] at h5
    clear hd
    go_enter Try.func43, Try.ntmps43
    go_wp2
    go_quiet (fail)
    go_wp2
    go_ret
    exact ⟨rfl, _, rfl⟩
  | false =>
    rw [hd] at h5
    clear hd
    go_enter Try.func43, Try.ntmps43
    go_wp2
    go_quiet (fail)
    go_wp2
    go_ret
    exact ⟨rfl, _, rfl⟩

set_option maxHeartbeats 400000 in
theorem highLit_any (w : World) (B n : Nat) (T : Int) (ba bs bd gs gc go gd cs cc co cd : Nat) (s : Al.St) (h : Owns w B (alL ba bs bd gs gc go gd cs cc co cd n n T s)) (hsl : s.sh.length = n) (hdl : s.dn.length = n) (i : Nat) (hi : i < n) (hn : n ≤ 16) :
    Calls Try.prog 44 #[.int .i64 i, .pointer (some ⟨bd, 0, none⟩), .pointer (some ⟨bs, 0, none⟩), .pointer (some ⟨ba, 0, none⟩)] w (RetQ w (.bool (Al.isHigh T s i))) := by
  have h1 := (h.boxAt 0 rfl).1
  have h2 := (h.boxAt 1 rfl).1
  have h3 := (h.boxAt 2 rfl).1
  have h4 := h.intAt 3 rfl i (by omega)
  have h5 := h.boolAt 6 rfl i (by omega)
  clear hsl hdl
  have hi0 : (0 : Int) ≤ (i : Int) := by omega
  have hi1 : (i : Int) < (n : Int) := by omega
  clear h
  unfold Al.isHigh
  cases hd : s.dn.getD i false with
  | true =>
    rw [hd] at h5
    clear hd
    go_enter Try.func44, Try.ntmps44
    go_wp2
    go_quiet (fail)
    go_wp2
    go_ret
    exact ⟨rfl, _, rfl⟩
  | false =>
    rw [hd] at h5
    clear hd
    go_enter Try.func44, Try.ntmps44
    go_wp2
    go_quiet (fail)
    go_wp2
    go_ret
    exact ⟨rfl, _, rfl⟩

/-- The place that a search finds, -1 for none. -/
def placeOf (o : Option Nat) : Int := match o with | some i => (i : Int) | none => -1

set_option maxHeartbeats 800000 in
theorem findLow_any (w : World) (B n : Nat) (T : Int) (ba bs bd gs gc go gd cs cc co cd : Nat) (s : Al.St) (h : Owns w B (alL ba bs bd gs gc go gd cs cc co cd n n T s)) (hsl : s.sh.length = n) (hdl : s.dn.length = n) (hn : n ≤ 16) :
    Calls Try.prog 42 #[.func (.func 43) #[] #[.pointer (some ⟨bd, 0, none⟩), .pointer (some ⟨bs, 0, none⟩), .pointer (some ⟨ba, 0, none⟩)], .pointer (some ⟨bs, 0, none⟩)] w (RetQ w (.int .i64 (placeOf (Al.low T s)))) := by
  have h2 := (h.boxAt 1 rfl).1
  have Hdl := Lib.hid hdl
  clear hdl
  have Hsl := Lib.hid hsl
  clear hsl
  go_enter Try.func42, Try.ntmps42
  go_wp2
  go_loopw [7] (fun i wr => ∃ k : Nat, k ≤ n ∧ i = .int .i64 k ∧ (∀ j, j < k → Al.isLow T s j = false) ∧ ∃ q, wr = w.drewN q) (fun i _ => n - (intOf i).toNat)
  case atStart => exact ⟨0, Nat.zero_le _, rfl, by omega, 0, rfl⟩
  case round =>
    obtain ⟨k, hk, rfl, hall, q, rfl⟩ := hrel
    have Hall := Lib.hid hall
    clear hall
    by_cases hlt : k < n
    · have hk0 : (0:Int) ≤ (k:Int) := by omega
      have hkl : (k:Int) < (n:Int) := by omega
      have hr := h.drewN q
      cases hlow : Al.isLow T s k with
      | true =>
        have Hl := Lib.hid hlow
        clear hlow
        go_wp2_with fail
        refine (lowLit_any _ B n T ba bs bd gs gc go gd cs cc co cd s hr Hsl.out Hdl.out k hlt hn).mono ?_
        rintro e w' ⟨rfl, q2, rfl⟩
        rw [Hl.out]
        go_wp2
        go_ret
        refine ⟨?_, q + q2, rfl⟩
        rw [Al.low_of (by rw [Hsl.out]; exact hlt) Hl.out Hall.out]
        rfl
      | false =>
        have Hl := Lib.hid hlow
        clear hlow
        go_wp2_with fail
        refine (lowLit_any _ B n T ba bs bd gs gc go gd cs cc co cd s hr Hsl.out Hdl.out k hlt hn).mono ?_
        rintro e w' ⟨rfl, q2, rfl⟩
        rw [Hl.out]
        go_wp2
        go_roundw
        case rel =>
          refine ⟨k + 1, by omega, by go_num, fun j hj => ?_, q + q2, rfl⟩
          by_cases hjk : j = k
          · subst hjk; exact Hl.out
          · exact Hall.out j (by omega)
        case measure => simp [intOf]; omega
    · go_wp2
      go_ret
      refine ⟨?_, q, rfl⟩
      rw [Al.low_eq_none (fun j hj => Hall.out j (by have := Hsl.out; omega))]
      rfl

set_option maxHeartbeats 800000 in
theorem findHigh_any (w : World) (B n : Nat) (T : Int) (ba bs bd gs gc go gd cs cc co cd : Nat) (s : Al.St) (h : Owns w B (alL ba bs bd gs gc go gd cs cc co cd n n T s)) (hsl : s.sh.length = n) (hdl : s.dn.length = n) (hn : n ≤ 16) :
    Calls Try.prog 42 #[.func (.func 44) #[] #[.pointer (some ⟨bd, 0, none⟩), .pointer (some ⟨bs, 0, none⟩), .pointer (some ⟨ba, 0, none⟩)], .pointer (some ⟨bs, 0, none⟩)] w (RetQ w (.int .i64 (placeOf (Al.high T s)))) := by
  have h2 := (h.boxAt 1 rfl).1
  have Hdl := Lib.hid hdl
  clear hdl
  have Hsl := Lib.hid hsl
  clear hsl
  go_enter Try.func42, Try.ntmps42
  go_wp2
  go_loopw [7] (fun i wr => ∃ k : Nat, k ≤ n ∧ i = .int .i64 k ∧ (∀ j, j < k → Al.isHigh T s j = false) ∧ ∃ q, wr = w.drewN q) (fun i _ => n - (intOf i).toNat)
  case atStart => exact ⟨0, Nat.zero_le _, rfl, by omega, 0, rfl⟩
  case round =>
    obtain ⟨k, hk, rfl, hall, q, rfl⟩ := hrel
    have Hall := Lib.hid hall
    clear hall
    by_cases hlt : k < n
    · have hk0 : (0:Int) ≤ (k:Int) := by omega
      have hkl : (k:Int) < (n:Int) := by omega
      have hr := h.drewN q
      cases hlow : Al.isHigh T s k with
      | true =>
        have Hl := Lib.hid hlow
        clear hlow
        go_wp2_with fail
        refine (highLit_any _ B n T ba bs bd gs gc go gd cs cc co cd s hr Hsl.out Hdl.out k hlt hn).mono ?_
        rintro e w' ⟨rfl, q2, rfl⟩
        rw [Hl.out]
        go_wp2
        go_ret
        refine ⟨?_, q + q2, rfl⟩
        rw [Al.high_of (by rw [Hsl.out]; exact hlt) Hl.out Hall.out]
        rfl
      | false =>
        have Hl := Lib.hid hlow
        clear hlow
        go_wp2_with fail
        refine (highLit_any _ B n T ba bs bd gs gc go gd cs cc co cd s hr Hsl.out Hdl.out k hlt hn).mono ?_
        rintro e w' ⟨rfl, q2, rfl⟩
        rw [Hl.out]
        go_wp2
        go_roundw
        case rel =>
          refine ⟨k + 1, by omega, by go_num, fun j hj => ?_, q + q2, rfl⟩
          by_cases hjk : j = k
          · subst hjk; exact Hl.out
          · exact Hall.out j (by omega)
        case measure => simp [intOf]; omega
    · go_wp2
      go_ret
      refine ⟨?_, q, rfl⟩
      rw [Al.high_eq_none (fun j hj => Hall.out j (by have := Hsl.out; omega))]
      rfl


end Go.Proofs.Ytfageonhlmhhpaa

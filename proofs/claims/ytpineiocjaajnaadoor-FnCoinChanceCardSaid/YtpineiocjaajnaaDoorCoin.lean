import Derived.Test.YtpineiocjaajnaaDoorFrac
import Derived.Test.YtpineiocjaajnaaDoorBitsX
import Derived.Deep.LoopGhost
/- A coin out of a fraction: the law FnExactCoinFrom. Condition: the text is shorter than the model's greatest length. -/
namespace Go.Proofs.YtpineiocjaajnaaDoor
open Go.RowKit
set_option linter.unusedVariables false

/-- What is left of the fraction behind m bits. -/
def cfR (d r0 : Int) : Nat → Int
  | 0 => r0
  | m + 1 => if d ≤ 2 * cfR d r0 m then 2 * cfR d r0 m - d else 2 * cfR d r0 m
def cfD (d r0 : Int) (m : Nat) : Bool := decide (d ≤ 2 * cfR d r0 m)
theorem cfR_bd {d r0 : Int} (h : 0 ≤ r0 ∧ r0 ≤ d) : ∀ m, 0 ≤ cfR d r0 m ∧ cfR d r0 m ≤ d
  | 0 => h
  | m + 1 => by have := cfR_bd h m; rw [cfR]; split <;> omega
theorem cfR_step (d r0 : Int) (m : Nat) : cfR d r0 (m + 1) = if cfD d r0 m then 2 * cfR d r0 m - d else 2 * cfR d r0 m := by
  rw [cfR]; unfold cfD; simp
def cfA (f g : Nat → Bool) : Nat → Option (Bool × Nat)
  | 0 => none
  | m + 1 => match cfA f g m with
    | some x => some x
    | none => if f m != g m then some (g m, m + 1) else none
theorem cfA_stay {f g : Nat → Bool} {x : Bool × Nat} {m : Nat} (h : cfA f g m = some x) : ∀ n, m ≤ n → cfA f g n = some x
  | 0, hn => by obtain rfl : m = 0 := by omega
                exact h
  | n + 1, hn => by
    by_cases e : m = n + 1
    · subst e; exact h
    · rw [cfA, cfA_stay h n (by omega)]
theorem cfA_hit {f g : Nat → Bool} {m n : Nat} (h : cfA f g m = none) (hf : (f m != g m) = true) (hn : m < n) : cfA f g n = some (g m, m + 1) :=
  cfA_stay (m := m + 1) (by rw [cfA, h, hf]; rfl) n hn
theorem cfA_next {f g : Nat → Bool} {m : Nat} (h : cfA f g m = none) (hf : (f m != g m) = false) : cfA f g (m + 1) = none := by
  rw [cfA, h, hf]; rfl
def bitC (s : ByteArray) (m : Nat) : Bool := by8 s m == 49
theorem bitC_byte {s : ByteArray} (h : isB s = true) {m : Nat} (hm : m < s.size) : (((s[m]'hm).toNat : Nat) : Int) = if bitC s m then 49 else 48 := by
  rw [get_by8 s m hm, (isB_at h hm).1]
  unfold bitOf bitC
  by_cases e : by8 s m = 49 <;> simp [e]
def cfOk (n d : Int) (s : ByteArray) : Bool := vF n d && (inR n 0 d && isB s)
def cfV (n d : Int) (s : ByteArray) : Option (Bool × Nat) := if cfOk n d s then cfA (bitC s) (cfD d n) s.size else none
def cfT : Option (Bool × Nat) → Value
  | none => .tuple #[.int .i64 0, .int .i64 0, .bool false]
  | some (b, k) => .tuple #[.int .i64 (if b then 1 else 0), .int .i64 (k : Nat), .bool true]
def RetCf (w : World) (n d : Int) (s : ByteArray) (e : Ending) (w' : World) : Prop := e = .returned (cfT (cfV n d s)) ∧ Below w.heap.size w w'
theorem retCf_no {w w' : World} {n d : Int} {s : ByteArray} (h : cfOk n d s = false) (hb : Below w.heap.size w w') : RetCf w n d s (.returned (.tuple #[.int .i64 0, .int .i64 0, .bool false])) w' :=
  ⟨by unfold cfV; rw [h]; rfl, hb⟩
theorem boxed_below {w w' : World} {n d : Int} {T : TypeId} (h : Below (w.heap.size + 1) (w.alloc (.cells #[.int .i64 n, .int .i64 d] T)) w') : Below w.heap.size w w' ∧ w'.cell? ⟨w.heap.size, 0, none⟩ = some (.int .i64 n) ∧ w'.cell? ⟨w.heap.size, 1, none⟩ = some (.int .i64 d) := by
  have c0 := h.cell (p := ⟨w.heap.size, 0, none⟩) (Nat.lt_succ_self _)
  have c1 := h.cell (p := ⟨w.heap.size, 1, none⟩) (Nat.lt_succ_self _)
  refine ⟨((Below.refl _ w).alloc (Nat.le_refl _) _).trans (h.mono (by omega)), ?_, ?_⟩
  · rw [c0]; go_simp
  · rw [c1]; go_simp
set_option maxRecDepth 20000 in
set_option maxHeartbeats 1600000 in
theorem coinFrom_any (n d : Int) (s : ByteArray) (w : World) (hs : s.size ≤ maxLen) :
    Calls Tryd.prog 23 #[.agg #[.int .i64 n, .int .i64 d], .string s] w (RetCf w n d s) := by
  cases hv : vF n d with
  | false =>
    have HN := Lib.hid (show cfOk n d s = false by unfold cfOk; rw [hv]; rfl)
    have HV := Lib.hid hv
    clear hv
    go_enter Tryd.func23, Tryd.ntmps23
    go_wp2_with fail
    refine (validFraction_any n d _).mono ?_
    rintro e w1 ⟨rfl, hb1⟩
    rw [HV.out]
    have Hb := Lib.hid (bthen ((Below.refl _ w).alloc (Nat.le_refl _) _) hb1)
    clear hb1
    go_wp2_with fail
    go_ret3
    exact retCf_no HN.out Hb.out
  | true =>
    cases hr : inR n 0 d with
    | false =>
      have HN := Lib.hid (show cfOk n d s = false by unfold cfOk; rw [hv, hr]; rfl)
      have HV := Lib.hid (And.intro hv hr)
      clear hv hr
      go_enter Tryd.func23, Tryd.ntmps23
      go_wp2_with fail
      refine (validFraction_any n d _).mono ?_
      rintro e w1 ⟨rfl, hb1⟩
      rw [HV.out.1]
      obtain ⟨hb, q0, q1⟩ := boxed_below (by exact hb1.mono (Nat.le_of_eq (by simp)))
      have Hb := Lib.hid hb
      clear hb1 hb
      go_wp2_with fail
      refine (inRange_any _ _ _ _).mono ?_
      rintro e w' ⟨rfl, rfl⟩
      rw [HV.out.2]
      go_wp2_with fail
      go_ret3
      exact retCf_no HN.out Hb.out
    | true =>
      cases hB : isB s with
      | false =>
        have HN := Lib.hid (show cfOk n d s = false by unfold cfOk; rw [hv, hr, hB]; rfl)
        have HV := Lib.hid (And.intro hv (And.intro hr hB))
        clear hv hr hB
        go_enter Tryd.func23, Tryd.ntmps23
        go_wp2_with fail
        refine (validFraction_any n d _).mono ?_
        rintro e w1 ⟨rfl, hb1⟩
        rw [HV.out.1]
        obtain ⟨hb, q0, q1⟩ := boxed_below (by exact hb1.mono (Nat.le_of_eq (by simp)))
        have Hb := Lib.hid hb
        clear hb1 hb
        go_wp2_with fail
        refine (inRange_any _ _ _ _).mono ?_
        rintro e w' ⟨rfl, rfl⟩
        rw [HV.out.2.1]
        go_wp2_with fail
        refine (isBits_any s _ hs).mono ?_
        rintro e w2 ⟨rfl, hb2⟩
        rw [HV.out.2.2]
        have Hb2 := Lib.hid (bthen Hb.out hb2)
        clear hb2
        go_wp2_with fail
        go_ret3
        exact retCf_no HN.out Hb2.out
      | true =>
        have hcv : cfV n d s = cfA (bitC s) (cfD d n) s.size := by unfold cfV cfOk; rw [hv, hr, hB]; rfl
        obtain ⟨⟨hd1, hd2⟩, _, _⟩ := vF_iff.1 hv
        have hr2 : 0 ≤ n ∧ n ≤ d := by simpa [inR] using hr
        have hbd := cfR_bd hr2
        have hst := cfR_step d n
        have hdg : ∀ m, cfD d n m = decide (d ≤ 2 * cfR d n m) := fun m => rfl
        have hbt : ∀ m (hm : m < s.size), (((s[m]'hm).toNat : Nat) : Int) = if bitC s m then 49 else 48 := fun m hm => bitC_byte hB hm
        have hs4 := isB_size hB
        obtain ⟨f, hf⟩ : ∃ f, bitC s = f := ⟨_, rfl⟩
        obtain ⟨g, hg⟩ : ∃ g, cfD d n = g := ⟨_, rfl⟩
        have hret : RetCf w n d s = fun e w' => e = .returned (cfT (cfA f g s.size)) ∧ Below w.heap.size w w' := by unfold RetCf; rw [hcv, hf, hg]
        rw [hret]
        rw [hf] at hbt
        rw [hg] at hst hdg
        have HH := Lib.hid (And.intro hbd (And.intro hst (And.intro hdg hbt)))
        have HV := Lib.hid (And.intro hv (And.intro hr hB))
        clear hv hr hB hcv hr2 hbd hst hdg hbt hf hg hret
        go_enter Tryd.func23, Tryd.ntmps23
        go_wp2_with fail
        refine (validFraction_any n d _).mono ?_
        rintro e w1 ⟨rfl, hb1⟩
        rw [HV.out.1]
        obtain ⟨hb, q0, q1⟩ := boxed_below (by exact hb1.mono (Nat.le_of_eq (by simp)))
        have Hb := Lib.hid hb
        clear hb1 hb
        go_wp2_with fail
        refine (inRange_any _ _ _ _).mono ?_
        rintro e w' ⟨rfl, rfl⟩
        rw [HV.out.2.1]
        go_wp2_with fail
        refine (isBits_any s _ hs).mono ?_
        rintro e w2 ⟨rfl, hb2⟩
        rw [HV.out.2.2]
        have hlt0 : w.heap.size < w1.heap.size := World.block_lt_of_cell? w1 _ q0
        have c0 := (hb2.cell (p := ⟨w.heap.size, 0, none⟩) hlt0).trans q0
        have c1 := (hb2.cell (p := ⟨w.heap.size, 1, none⟩) hlt0).trans q1
        have HC1 := Lib.hid c1
        have Hb2 := Lib.hid (bthen Hb.out hb2)
        have hlt2 : w.heap.size < w2.heap.size := Nat.lt_of_lt_of_le hlt0 hb2.size
        clear hb2 q0 q1 Hb c1
        obtain ⟨bx, hbx⟩ : ∃ bx, w.heap.size = bx := ⟨_, rfl⟩
        rw [hbx] at c0 HC1 hlt2 ⊢
        have HBX := Lib.hid hbx
        clear hbx hlt0
        go_wp2
        go_loopw [30, 7] (fun i v wr => ∃ (m : Nat) (r : Int), m ≤ s.size ∧ i = .int .i64 (m : Nat) ∧ v = .int .i64 r ∧ Hid (cfR d n m = r) ∧ Hid (cfA f g m = none) ∧ Hid (Below w2.heap.size w2 wr)) (fun i _ _ => s.size - (intOf i).toNat)
        case atStart => exact ⟨0, n, Nat.zero_le _, rfl, rfl, Lib.hid rfl, Lib.hid rfl, Lib.hid (Below.refl _ _)⟩
        case round =>
          clear c0
          obtain ⟨m, r, hm, rfl, rfl, HR, HA, HQ⟩ := hrel
          by_cases hlt : m < s.size
          · have hm0 : (0:Int) ≤ (m:Int) := by omega
            have hmi : (m:Int) < (s.size:Int) := by omega
            have c1 := (HQ.out.cell (p := ⟨bx, 1, none⟩) hlt2).trans HC1.out
            obtain ⟨hr0, hr1⟩ := HH.out.1 m
            have hst := HH.out.2.1 m
            have hdg := HH.out.2.2.1 m
            have hbt := HH.out.2.2.2 m hlt
            rw [HR.out] at hr0 hr1 hst hdg
            obtain ⟨R, hRe⟩ : ∃ R, r * 2 = R := ⟨_, rfl⟩
            have hR2 : 2 * r = R := by omega
            rw [hR2] at hst hdg
            have hRb : 0 ≤ R ∧ R ≤ 2 * d := by omega
            have hHit := fun (h : (f m != g m) = true) => cfA_hit HA.out h hlt
            have hNext := fun (h : (f m != g m) = false) => cfA_next HA.out h
            obtain ⟨bf, hbf⟩ : ∃ bf, f m = bf := ⟨_, rfl⟩
            obtain ⟨bg, hbg⟩ : ∃ bg, g m = bg := ⟨_, rfl⟩
            rw [hbf] at hbt hHit hNext
            rw [hbg] at hst hdg hHit hNext
            have HHit := Lib.hid hHit
            have HNext := Lib.hid hNext
            have HST := Lib.hid hst
            clear hbf hbg hHit hNext hst hR2
            obtain ⟨x, hx⟩ : ∃ x : Int, (((s[m]'hlt).toNat : Nat) : Int) = x := ⟨_, rfl⟩
            rw [hx] at hbt
            cases bg
            · have hge : ¬ d ≤ R := by simpa using hdg.symm
              clear hdg
              cases bf
              · simp only [Bool.false_eq_true, if_false] at hbt
                subst hbt
                go_wp2
                go_roundw
                case rel => exact ⟨m + 1, R, by omega, by go_num, rfl, Lib.hid (by rw [HST.out]; rfl), Lib.hid (HNext.out rfl), HQ⟩
                case measure => simp [intOf]; omega
              · simp only [if_true] at hbt
                subst hbt
                go_wp2
                go_ret3
                exact ⟨by rw [HHit.out rfl]; rfl, bthen Hb2.out HQ.out⟩
            · have hge : d ≤ R := by simpa using hdg.symm
              have hw1 : IntKind.i64.wrap (R - d) = R - d := IntWalk.i64_in _ (by omega)
              clear hdg
              cases bf
              · simp only [Bool.false_eq_true, if_false] at hbt
                subst hbt
                go_wp2_with fail
                go_quiet (fail)
                go_wp2
                go_ret3
                exact ⟨by rw [HHit.out rfl]; rfl, bthen Hb2.out (bthen HQ.out (drewN_below _ _))⟩
              · simp only [if_true] at hbt
                subst hbt
                go_wp2_with fail
                go_quiet (fail)
                go_wp2
                go_roundw
                case rel => exact ⟨m + 1, R - d, by omega, by go_num, rfl, Lib.hid (by rw [HST.out]; rfl), Lib.hid (HNext.out rfl), Lib.hid (bthen HQ.out (drewN_below _ _))⟩
                case measure => simp [intOf]; omega
          · obtain rfl : m = s.size := by omega
            go_wp2
            go_ret3
            exact ⟨by rw [HA.out]; rfl, bthen Hb2.out HQ.out⟩
end Go.Proofs.YtpineiocjaajnaaDoor

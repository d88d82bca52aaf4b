import Derived.Test.YtpineiocjaajnaaDcP
import Derived.Test.YtpineiocjaajnaaRatK
import Derived.Deep.CutBlock
/- The cost of a die: the program. Condition: none (other numbers than 1 to 32 are told apart). -/
namespace Go.Proofs.Ytpineiocjaajnaa
open Go.RowKit
set_option linter.unusedVariables false

/-- A row of numbers of this call, all of its block. -/
def DcO (w0 wr : World) (g n : Nat) (xs : List Int) : Prop := wr.ownsRow w0.heap.size 2 1 (.slice (some ⟨g, 0, none⟩) n n) n (xs.map (Value.int .i64)) ∧ Below w0.heap.size w0 wr
theorem DcO.cell {w0 wr : World} {g n : Nat} {xs : List Int} (h : DcO w0 wr g n xs) {j : Nat} (hj : j < n) : wr.cell? ⟨g, j, none⟩ = some (.int .i64 (xs.getD j 0)) := by
  obtain ⟨b, off, e, c⟩ := (IsInts.of_own h.1).at hj
  simp only [Option.some.injEq, Addr.mk.injEq] at e
  obtain ⟨rfl, rfl, _⟩ := e
  rwa [Nat.zero_add] at c
theorem DcO.frozen {w0 wr : World} {g n : Nat} {xs : List Int} (h : DcO w0 wr g n xs) (j : Nat) : wr.frozen? ⟨g, j, none⟩ = false := h.1.frozenAt j
theorem DcO.set {w0 wr : World} {g n : Nat} {xs : List Int} (h : DcO w0 wr g n xs) (j : Nat) (v : Int) : DcO w0 (wr.setCell ⟨g, j, none⟩ (.int .i64 v)) g n (xs.set j v) := by
  have hs := h.1.stored j (.int .i64 v)
  rw [← List.map_set] at hs
  exact ⟨hs.1, h.2.grown hs.2 h.2.size (fun k hk => (h.1.lt k (by simpa [Value.ownBlock] using hk)).1)⟩
theorem dcStep_any (r n b1 : Nat) (w : World) (h0 : 0 < n) (hn : n ≤ 32) (hr : r < n) (hc : w.cell? ⟨b1, 0, none⟩ = some (.int .i64 (n : Nat))) :
    Calls Try.prog 38 #[.int .i64 (r : Nat), .pointer (some ⟨b1, 0, none⟩)] w fun e w' => e = .returned (.int .i64 ((2 * r % n : Nat) : Int)) ∧ w' = w := by
  have n0 : ¬ (n : Int) = 0 := by omega
  have n1 : ¬ (n : Int) = -1 := by omega
  have hr0 : (0 : Int) ≤ (r : Int) := by omega
  have hm : (2 * (r : Int)) % (n : Int) = ((2 * r % n : Nat) : Int) := by rw [Int.natCast_emod, Int.natCast_mul]; rfl
  have hm2 : (2 * (r : Int)).tmod (n : Int) = ((2 * r % n : Nat) : Int) := by rw [Int.tmod_eq_emod_of_nonneg (by omega)]; exact hm
  have hw : IntKind.i64.wrap (2 * (r : Int)) = 2 * (r : Int) := IntWalk.i64_in _ (by omega)
  obtain ⟨z, hz⟩ : ∃ z, 2 * r % n = z := ⟨_, rfl⟩
  have hzn : z < n := by rw [← hz]; exact Nat.mod_lt _ h0
  rw [hz] at hm hm2 ⊢
  clear hz
  go_enter Try.func38, Try.ntmps38
  go_wp2
  go_ret
  exact ⟨rfl, rfl⟩
set_option maxRecDepth 20000 in
set_option maxHeartbeats 1600000 in
theorem dcCycle_any (n B K b1 : Nat) (w : World) (h0 : 0 < n) (hn : n ≤ 32) (hN : DcN n B K) (hc : w.cell? ⟨b1, 0, none⟩ = some (.int .i64 (n : Nat))) (hb1 : b1 < w.heap.size) :
    Calls Try.prog 37 #[.int .i64 (n : Nat), .int .i64 ((1 % n : Nat) : Int), .func (.func 38) #[] #[.pointer (some ⟨b1, 0, none⟩)]] w fun e w' => e = .returned (.tuple #[.int .i64 (B : Nat), .int .i64 ((K - B : Nat) : Int)]) ∧ Below w.heap.size w w' := by
  obtain ⟨i0, hi, hz0, hz1, hz2⟩ := info_parts Try.infoI
  have HZ := Lib.hid (zeros_toList n)
  have HN := Lib.hid hN
  have HC := Lib.hid hc
  have hstart : ((1 % n : Nat) : Int) = ((dcR n 0 : Nat) : Int) := rfl
  rw [hstart]
  clear hN hc hstart
  go_enter Try.func37, Try.ntmps37
  go_wp2_with (at_make; refine wpList_make_full _ rfl _ _ 24 rfl w.heap.size 2 i0 (.int .i64 0) 1 Try.underlying24 hi hz0 hz1 _ _ _ _ n rfl rfl ?cL ?cC ?c1 ?c2 ?c3 ?_)
  case cL => rfl
  case cC => rfl
  case c1 => rw [hz2]; omega
  case c2 => unfold maxLen; omega
  case c3 => exact Nat.le_refl _
  intro w1 hown hgrow
  have HO := Lib.hid (show DcO w w1 w.heap.size n (dcRow n 0) from ⟨by rw [HZ.out, ← dcRow_zero] at hown; exact hown, (Below.refl _ _).grown hgrow (Nat.le_refl _) (by simp)⟩)
  clear hown hgrow
  obtain ⟨g, hg⟩ : ∃ g, w.heap.size = g := ⟨_, rfl⟩
  rw [hg] at HO ⊢
  have HG := Lib.hid hg
  go_wp2_with fail
  go_loopw [1, 9] (fun v1 v9 wr => ∃ k : Nat, k ≤ K ∧ v1 = .int .i64 ((dcR n k : Nat) : Int) ∧ v9 = .int .i64 ((k + 1 : Nat) : Int) ∧ Hid (DcO w wr g n (dcRow n k))) (fun _ v9 _ => 64 - (intOf v9).toNat)
  case atStart => exact ⟨0, Nat.zero_le _, rfl, rfl, HO⟩
  case round =>
    clear HO
    obtain ⟨k, hk, rfl, rfl, HO⟩ := hrel
    rename_i wr
    have hK32 := HN.out.k32
    have hlt := dcR_lt h0 k
    have c1 := HO.out.cell hlt
    have f1 := HO.out.frozen (dcR n k)
    rw [dcRow_at hlt] at c1
    have hst := dcR_succ n k
    by_cases hkK : k < K
    · have hfr := HN.out.fresh k hkK
      rw [hfr] at c1
      have hset := HO.out.set (dcR n k) ((k + 1 : Nat) : Int)
      rw [dcRow_set hfr] at hset
      obtain ⟨r, hr⟩ : ∃ r, dcR n k = r := ⟨_, rfl⟩
      rw [hr] at hlt c1 f1 hst hset
      rw [hr]
      have hbk := hset.2.cell (p := ⟨b1, 0, none⟩) (by rw [HG.out] at hb1 ⊢; exact hb1)
      have HS := Lib.hid (dcStep_any r n b1 (wr.setCell ⟨g, r, none⟩ (.int .i64 ((k + 1 : Nat) : Int))) h0 hn hlt (hbk.trans HC.out))
      rw [hst] at HS
      have HO2 := Lib.hid hset
      have hr0 : (0:Int) ≤ (r:Int) := by omega
      have hr1 : (r:Int) < (n:Int) := by omega
      rw [show ((k + 1 : Nat) : Int) = (k : Int) + 1 by omega] at HS HO2
      rw [show ((k + 1 : Nat) : Int) = (k : Int) + 1 by omega]
      clear hset hst hfr hr hbk
      go_wp2_with fail
      refine HS.out.mono ?_
      rintro e w' ⟨rfl, rfl⟩
      go_wp2_with fail
      go_roundw
      case rel => exact ⟨k + 1, by omega, rfl, by go_num, HO2⟩
      case measure => simp [intOf]; omega
    · obtain rfl : k = K := by omega
      rw [HN.out.seen] at c1
      have hB := HN.out.bk
      obtain ⟨r, hr⟩ : ∃ r, dcR n k = r := ⟨_, rfl⟩
      rw [hr] at hlt c1 f1
      rw [hr]
      have hr0 : (0:Int) ≤ (r:Int) := by omega
      have hr1 : (r:Int) < (n:Int) := by omega
      have hp : (0:Int) < ((B + 1 : Nat) : Int) := by omega
      have hw1 : IntKind.i64.wrap (((B + 1 : Nat) : Int) - 1) = (B : Nat) := by rw [IntWalk.i64_in _ (by omega)]; omega
      have hw2 : IntKind.i64.wrap (((k + 1 : Nat) : Int) - ((B + 1 : Nat) : Int)) = ((k - B : Nat) : Int) := by rw [IntWalk.i64_in _ (by omega)]; omega
      obtain ⟨u, hu⟩ : ∃ u, ((B + 1 : Nat) : Int) = u := ⟨_, rfl⟩
      obtain ⟨t, ht⟩ : ∃ t, ((k + 1 : Nat) : Int) = t := ⟨_, rfl⟩
      rw [hu] at c1 hp hw1 hw2
      rw [ht] at hw2
      rw [ht]
      clear hr hst hu ht
      go_wp2_with fail
      go_ret2
      exact ⟨rfl, HO.out.2⟩
/-- What the program's loop keeps. -/
structure DcI (w wr : World) (b6 b7 n : Nat) (r6 r7 : Rat) : Prop where
  c1 : wr.cell? ⟨w.heap.size, 0, none⟩ = some (.int .i64 (n : Nat))
  c2 : C2 wr (w.heap.size + 1) (.int .i64 0) (.int .i64 0)
  x6 : RBox wr b6 r6
  x7 : RBox wr b7 r7
  ne : b6 ≠ b7
  g6 : w.heap.size + 1 < b6
  g7 : w.heap.size + 1 < b7
  bel : Below w.heap.size w wr
theorem DcI.all {w wr wx : World} {b6 b7 n : Nat} {r6 r7 : Rat} (h : DcI w wr b6 b7 n r6 r7) (hb : Below wr.heap.size wr wx) : DcI w wx b6 b7 n r6 r7 :=
  ⟨(hb.cell (p := ⟨w.heap.size, 0, none⟩) (World.block_lt_of_cell? wr _ h.c1)).trans h.c1, h.c2.all hb, h.x6.all hb, h.x7.all hb, h.ne, h.g6, h.g7, bthen h.bel hb⟩
theorem C3.keep {w : World} {b g : Nat} {x y z : Value} (h : C3 w b x y z) (hne : g ≠ b) (u v t : Value) : C3 (put3 w g u v t) b x y z := ((h.other hne u).other hne v).other hne t
theorem put3_keep3 {w : World} {b g : Nat} {x y z : Value} (h : C3 w b x y z) (hne : g ≠ b) (u v t : Value) : C3 (put3 w g u v t) b x y z := h.keep hne u v t
theorem below_2c {w w' : World} {B g : Nat} (h : Below B w w') (hg : B ≤ g) (u v : Value) : Below B w ((w'.setCell ⟨g, 0, none⟩ u).setCell ⟨g, 1, none⟩ v) := (h.setCell (p := ⟨g, 0, none⟩) hg _).setCell (p := ⟨g, 1, none⟩) hg _
theorem fracV_dc (r : Rat) : ∃ p q b, fracV r = .tuple #[.agg #[.int .i64 p, .int .i64 q], .bool b] := by unfold fracV; split <;> exact ⟨_, _, _, rfl⟩
theorem put3_cell {w : World} {g b o : Nat} (hne : g ≠ b) (u v t : Value) : (put3 w g u v t).cell? ⟨b, o, none⟩ = w.cell? ⟨b, o, none⟩ := by
  have e : ∀ p, (⟨g, p, none⟩ : Addr) ≠ ⟨b, o, none⟩ := fun p e => by injection e; omega
  unfold put3
  rw [World.cell?_setCell_other _ _ _ _ (e 2), World.cell?_setCell_other _ _ _ _ (e 1), World.cell?_setCell_other _ _ _ _ (e 0)]
theorem RBox.put {w : World} {b g : Nat} {r : Rat} {x y z : Value} {sg : Bool} {a1 a2 : Option Addr} {l1 c1 l2 c2 : Nat} (h : RBox w b r) (hx : C3 w g (.bool sg) (.slice a1 l1 c1) (.slice a2 l2 c2)) (hne : g ≠ b) : RBox (put3 w g x y z) b r := by
  obtain ⟨a1, c1, l1, a2, c2, l2, h1, h2⟩ := h
  exact ⟨a1, c1, l1, a2, c2, l2, put3_keep3 h1 hne _ _ _, h2.ints (put3_ints hx _ _ _)⟩
theorem bits_nat {p q y : Nat} (hq : 0 < q) (h1 : p < 2 ^ y) (h2 : q < 2 ^ y) : bitsR (mkRat (p : Int) q) y := by
  unfold bitsR
  rw [mk_abs (by omega), mk_den (by omega), Int.natAbs_natCast]
  exact ⟨Nat.lt_of_le_of_lt (Nat.div_le_self _ _) h1, Nat.lt_of_le_of_lt (Nat.div_le_self _ _) h2⟩
theorem quotient_rr (p q : Nat) (w : World) (h1 : p < 9223372036854775808) (h2 : q < 9223372036854775808) (h3 : 0 < q) : Calls Try.prog 40 #[.int .i64 (p : Nat), .int .i64 (q : Nat)] w (RetR w (mkRat (p : Int) q)) :=
  (quotient_any (p : Nat) q w (by omega) (by omega) h2 h3).mono fun e w' h => retR_raw rfl rfl rfl h
/-- Two slices: where, room, length of each. -/
abbrev RV := Option Addr × Nat × Nat × Option Addr × Nat × Nat
def RV.ok (r : RV) (v : World) : Prop := RawV v r.1 r.2.2.2.1 r.2.2.1 r.2.2.2.2.2 (0 : Rat).num.natAbs (0 : Rat).den
def BoxOk (v : World) (b : Nat) (r : RV) : Prop := C3 v b (.bool false) (.slice r.1 r.2.2.1 r.2.1) (.slice r.2.2.2.1 r.2.2.2.2.2 r.2.2.2.2.1)
def RV.zero : RV := (none, 0, 0, none, 0, 0)
/-- What is known while two zeros come into two boxes, in any order. -/
structure R4 (wc : World) (p q : Option RV) (x y : Option (Nat × RV)) (v : World) : Prop where
  bel : Below wc.heap.size wc v
  hp : ∀ r, p = some r → r.ok v
  hq : ∀ r, q = some r → r.ok v
  hx : ∀ b r, x = some (b, r) → wc.heap.size ≤ b ∧ BoxOk v b r
  hy : ∀ b r, y = some (b, r) → wc.heap.size ≤ b ∧ BoxOk v b r
  ne : ∀ b r b' r', x = some (b, r) → y = some (b', r') → b ≠ b'
theorem R4.start {wc v : World} (hb : Below wc.heap.size wc v) : R4 wc none none none none v :=
  ⟨hb, fun _ h => (by cases h), fun _ h => (by cases h), fun _ _ h => (by cases h), fun _ _ h => (by cases h), fun _ _ _ _ h => (by cases h)⟩
theorem R4.below {wc v v' : World} {p q : Option RV} {x y : Option (Nat × RV)} (h : R4 wc p q x y v) (hb : Below v.heap.size v v') : R4 wc p q x y v' :=
  ⟨bthen h.bel hb, fun r e => RawV.below (h.hp r e) hb, fun r e => RawV.below (h.hq r e) hb, fun b r e => ⟨(h.hx b r e).1, C3.all (h.hx b r e).2 hb⟩, fun b r e => ⟨(h.hy b r e).1, C3.all (h.hy b r e).2 hb⟩, h.ne⟩
theorem R4.call0 {wc v : World} {q : Option RV} {x y : Option (Nat × RV)} (h : R4 wc none q x y v) (r : RV) (hr : r.ok v) : R4 wc (some r) q x y v :=
  ⟨h.bel, fun r' e => (by cases e; exact hr), h.hq, h.hx, h.hy, h.ne⟩
theorem R4.call1 {wc v : World} {p : Option RV} {x y : Option (Nat × RV)} (h : R4 wc p none x y v) (r : RV) (hr : r.ok v) : R4 wc p (some r) x y v :=
  ⟨h.bel, h.hp, fun r' e => (by cases e; exact hr), h.hx, h.hy, h.ne⟩
theorem R4.alloc4 {wc v : World} {p q : Option RV} {y : Option (Nat × RV)} (h : R4 wc p q none y v) : R4 wc p q (some (v.heap.size, RV.zero)) y (v.alloc (.cells #[.bool false, .slice none 0 0, .slice none 0 0] 71)) := by
  have h2 := h.below ((Below.refl _ v).alloc (Nat.le_refl _) (.cells #[.bool false, .slice none 0 0, .slice none 0 0] 71))
  refine ⟨h2.bel, h2.hp, h2.hq, fun b r e => ?_, h2.hy, fun b r b' r' e e' => ?_⟩
  · cases e; exact ⟨h.bel.size, C3.new v _ _ _ _⟩
  · cases e; have := (h.hy b' r' e').2.lt; omega
theorem R4.alloc5 {wc v : World} {p q : Option RV} {x : Option (Nat × RV)} (h : R4 wc p q x none v) : R4 wc p q x (some (v.heap.size, RV.zero)) (v.alloc (.cells #[.bool false, .slice none 0 0, .slice none 0 0] 71)) := by
  have h2 := h.below ((Below.refl _ v).alloc (Nat.le_refl _) (.cells #[.bool false, .slice none 0 0, .slice none 0 0] 71))
  refine ⟨h2.bel, h2.hp, h2.hq, h2.hx, fun b r e => ?_, fun b r b' r' e e' => ?_⟩
  · cases e; exact ⟨h.bel.size, C3.new v _ _ _ _⟩
  · cases e'; have := (h.hx b r e).2.lt; omega
theorem R4.store4 {wc v : World} {r z : RV} {b : Nat} {q : Option RV} {y : Option (Nat × RV)} (h : R4 wc (some r) q (some (b, z)) y v) : R4 wc (some r) q (some (b, r)) y (put3 v b (.bool false) (.slice r.1 r.2.2.1 r.2.1) (.slice r.2.2.2.1 r.2.2.2.2.2 r.2.2.2.2.1)) := by
  obtain ⟨hg, hc⟩ := h.hx b z rfl
  have hi := put3_ints hc (.bool false) (.slice r.1 r.2.2.1 r.2.1) (.slice r.2.2.2.1 r.2.2.2.2.2 r.2.2.2.2.1)
  refine ⟨put3_below h.bel hg _ _ _, fun r' e => RawV.ints (h.hp r' e) hi, fun r' e => RawV.ints (h.hq r' e) hi, fun b' r' e => ?_, fun b' r' e => ⟨(h.hy b' r' e).1, put3_keep3 (h.hy b' r' e).2 (h.ne b z b' r' rfl e) _ _ _⟩, fun b1 r1 b2 r2 e e' => ?_⟩
  · cases e; exact ⟨hg, put3_box hc _ _ _⟩
  · cases e; exact h.ne b z b2 r2 rfl e'
theorem R4.store5 {wc v : World} {r z : RV} {b : Nat} {p : Option RV} {x : Option (Nat × RV)} (h : R4 wc p (some r) x (some (b, z)) v) : R4 wc p (some r) x (some (b, r)) (put3 v b (.bool false) (.slice r.1 r.2.2.1 r.2.1) (.slice r.2.2.2.1 r.2.2.2.2.2 r.2.2.2.2.1)) := by
  obtain ⟨hg, hc⟩ := h.hy b z rfl
  have hi := put3_ints hc (.bool false) (.slice r.1 r.2.2.1 r.2.1) (.slice r.2.2.2.1 r.2.2.2.2.2 r.2.2.2.2.1)
  refine ⟨put3_below h.bel hg _ _ _, fun r' e => RawV.ints (h.hp r' e) hi, fun r' e => RawV.ints (h.hq r' e) hi, fun b' r' e => ⟨(h.hx b' r' e).1, put3_keep3 (h.hx b' r' e).2 (fun e2 => h.ne b' r' b z e rfl e2.symm) _ _ _⟩, fun b' r' e => ?_, fun b1 r1 b2 r2 e e' => ?_⟩
  · cases e; exact ⟨hg, put3_box hc _ _ _⟩
  · cases e'; exact h.ne b1 r1 b z e rfl
theorem R4.box4 {wc v : World} {p q : Option RV} {b : Nat} {r : RV} {y : Option (Nat × RV)} (h : R4 wc p q (some (b, r)) y v) (e : r = RV.zero) : C3 v b (.bool false) (.slice none 0 0) (.slice none 0 0) := by
  subst e; exact (h.hx b _ rfl).2
theorem R4.box5 {wc v : World} {p q : Option RV} {b : Nat} {r : RV} {x : Option (Nat × RV)} (h : R4 wc p q x (some (b, r)) v) (e : r = RV.zero) : C3 v b (.bool false) (.slice none 0 0) (.slice none 0 0) := by
  subst e; exact (h.hy b _ rfl).2
theorem R4.done {wc v : World} {r s : RV} {b c : Nat} (h : R4 wc (some r) (some s) (some (b, r)) (some (c, s)) v) : RBox v b 0 ∧ RBox v c 0 ∧ b ≠ c ∧ wc.heap.size ≤ b ∧ wc.heap.size ≤ c ∧ Below wc.heap.size wc v :=
  ⟨⟨_, _, _, _, _, _, (h.hx b r rfl).2, h.hp r rfl⟩, ⟨_, _, _, _, _, _, (h.hy c s rfl).2, h.hq s rfl⟩, h.ne b r c s rfl rfl, (h.hx b r rfl).1, (h.hy c s rfl).1, h.bel⟩
/-- What both answer. -/
def dcV (n : Int) : Value := if inR n 1 32 then fracV (dcS n.toNat (dcB n.toNat) (dcK n.toNat) + dcA n.toNat (dcB n.toNat) (dcK n.toNat) * mkRat ((2 ^ (dcK n.toNat - dcB n.toNat) : Nat) : Int) (2 ^ (dcK n.toNat - dcB n.toNat) - 1)) else .tuple #[.agg #[.int .i64 0, .int .i64 0], .bool false]
theorem dcV_form (n : Int) : ∃ p q b, dcV n = .tuple #[.agg #[.int .i64 p, .int .i64 q], .bool b] := by
  unfold dcV fracV
  split
  · split <;> exact ⟨_, _, _, rfl⟩
  · exact ⟨_, _, _, rfl⟩
/-- Bounds of the sums. -/
structure DcG (n B K : Nat) : Prop where
  s : ∀ m, m ≤ K → bitsR (dcS n B m) 120
  a : ∀ m, m ≤ K → bitsR (dcA n B m) 120
  q : bitsR (mkRat ((2 ^ (K - B) : Nat) : Int) (2 ^ (K - B) - 1)) 120
  p : bitsR (dcA n B K * mkRat ((2 ^ (K - B) : Nat) : Int) (2 ^ (K - B) - 1)) 120
  t : bitsR (dcS n B K + dcA n B K * mkRat ((2 ^ (K - B) : Nat) : Int) (2 ^ (K - B) - 1)) 120
theorem sm90 {r : Rat} (h : small90 r = true) : bitsR r 120 := by
  unfold small90 at h
  simp only [Bool.and_eq_true, decide_eq_true_eq] at h
  exact h
theorem dcG {n : Nat} (h0 : 0 < n) (h1 : n ≤ 32) : DcG n (dcB n) (dcK n) := by
  have h := dc_agree n (by omega) h0
  unfold dcAgree at h
  simp only [Bool.and_eq_true, List.all_eq_true, List.mem_range] at h
  obtain ⟨a, b, c, d, e, f, _⟩ := h
  exact ⟨fun m hm => sm90 (a m (by omega)).1, fun m hm => sm90 (a m (by omega)).2.1, sm90 d, sm90 e, sm90 f⟩
end Go.Proofs.Ytpineiocjaajnaa

import Derived.Test.YtgfkaldndaepfaaDoorAnnE
import Derived.Test.YtgfkaldndaepfaaDoorNestB
import Derived.Test.YtgfkaldndaepfaaDoorHasA
import Derived.Deep.LoopGhost
import Derived.Deep.DeepCutAuto
/- Whether a half of a table has an annihilator: the reference's walk. Condition: the table has at most 6 inputs. -/
namespace Go.Proofs.YtgfkaldndaepfaaDoor
open Go.RowKit
set_option linter.unusedVariables false

/-- The row of a product, and the rows of the products before u. -/
def arow (f : Nat → Bool) (c : Bool) (u m : Nat) : List Bool := ((List.range m).filter (fun x => f x == c)).map (fun x => u &&& x == u)
def arows (f : Nat → Bool) (c : Bool) (d : Int) (m u : Nat) : List (List Bool) := ((List.range u).filter (fun u => decide ((pop6 u : Int) ≤ d))).map (fun v => arow f c v m)
theorem arow_yes {f : Nat → Bool} {c : Bool} {u m : Nat} (h : (f m == c) = true) : arow f c u (m + 1) = arow f c u m ++ [u &&& m == u] := by
  unfold arow; rw [filter_succ, h]; simp
theorem arow_no {f : Nat → Bool} {c : Bool} {u m : Nat} (h : (f m == c) = false) : arow f c u (m + 1) = arow f c u m := by
  unfold arow; rw [filter_succ, h]; simp
theorem arows_yes {f : Nat → Bool} {c : Bool} {d : Int} {m u : Nat} (h : (pop6 u : Int) ≤ d) : arows f c d m (u + 1) = arows f c d m u ++ [arow f c u m] := by
  unfold arows; rw [filter_succ, decide_eq_true h]; simp
theorem arows_no {f : Nat → Bool} {c : Bool} {d : Int} {m u : Nat} (h : d < (pop6 u : Int)) : arows f c d m (u + 1) = arows f c d m u := by
  unfold arows; rw [filter_succ, decide_eq_false (by omega)]; simp
theorem arow_len (f : Nat → Bool) (c : Bool) (u : Nat) (m : Nat) : (arow f c u m).length ≤ m := by
  unfold arow
  rw [List.length_map]
  exact Nat.le_trans (List.length_filter_le _ _) (by simp)
theorem arows_len (f : Nat → Bool) (c : Bool) (d : Int) (m u : Nat) : (arows f c d m u).length ≤ u := by
  unfold arows
  rw [List.length_map]
  exact Nat.le_trans (List.length_filter_le _ _) (by simp)
/-- The rows are dependent just if there is an annihilator. -/
theorem arows_dep (f : Nat → Bool) (c : Bool) (k : Nat) (d : Int) :
    DepR (bitR (arows f c d (2 ^ k) (2 ^ k))) (arows f c d (2 ^ k) (2 ^ k)).length ((List.range (2 ^ k)).filter (fun x => f x == c)).length ↔ Ann f c k d := by
  have hN : (arows f c d (2 ^ k) (2 ^ k)).length = (monos k d).length := by unfold arows monos; rw [List.length_map]
  rw [hN]
  unfold Ann
  refine dep_sel (fun x => f x == c) (fun i x _ _ hp => ?_) (fun i j hi hj => ?_)
  · unfold rowB; rw [hp]; rfl
  · have hi2 : i < (monos k d).length := hi
    have e1 : (arows f c d (2 ^ k) (2 ^ k)).getD i [] = arow f c ((monos k d).getD i 0) (2 ^ k) := by
      unfold arows monos at *
      simp [List.getD, hi2]
    have hmem : ((List.range (2 ^ k)).filter (fun x => f x == c)).getD j 0 ∈ (List.range (2 ^ k)).filter (fun x => f x == c) := by
      simp only [List.getD, List.getElem?_eq_getElem hj, Option.getD_some]
      exact List.getElem_mem hj
    have hp := (List.mem_filter.1 hmem).2
    have e2 : (arow f c ((monos k d).getD i 0) (2 ^ k)).getD j false = ((monos k d).getD i 0 &&& ((List.range (2 ^ k)).filter (fun x => f x == c)).getD j 0 == (monos k d).getD i 0) := by
      unfold arow
      simp [List.getD, hj]
    unfold bitR rowB
    rw [e1, e2, hp, Nat.and_comm]
    rfl
theorem arow_full (f : Nat → Bool) (c : Bool) (u m : Nat) : (arow f c u m).length = ((List.range m).filter (fun x => f x == c)).length := by unfold arow; rw [List.length_map]
theorem arows_mem {f : Nat → Bool} {c : Bool} {d : Int} {m u : Nat} {l : List Bool} (h : l ∈ arows f c d m u) : l.length = ((List.range m).filter (fun x => f x == c)).length := by
  unfold arows at h
  obtain ⟨v, _, rfl⟩ := List.mem_map.1 h
  exact arow_full f c v m
theorem arows_pos (f : Nat → Bool) (c : Bool) (d m u : Nat) (hu : 0 < u) : 0 < (arows f c d m u).length := by
  unfold arows
  rw [List.length_map]
  refine List.length_pos_of_mem (a := 0) ?_
  have h0 : pop6 0 = 0 := by decide
  simp [hu, h0]
set_option maxRecDepth 100000 in
set_option maxHeartbeats 3200000 in
theorem l04Ann_any (s : ByteArray) (c : Bool) (d : Nat) (k : Nat) (w : World) (hk : k < 7) (hsz : s.size = 2 ^ k) (hb : isB s = true) (hd : d ≤ 6) :
    Calls Tryd.prog 29 #[.string s, .int .u8 (vB c), .int .i64 d] w (Ret w (.bool (annB (bitF s) c k d))) := by
  have hs64 : s.size ≤ 64 := by have := pow_le_64 k hk; omega
  have hpos : 0 < s.size := by rw [hsz]; exact Nat.two_pow_pos k
  obtain ⟨f, hf⟩ : ∃ f, bitF s = f := ⟨_, rfl⟩
  obtain ⟨m, hm⟩ : ∃ m, s.size = m := ⟨_, rfl⟩
  have hbit : ∀ x, x < m → ((by8 s x).toNat : Int) = 48 + (if f x then 1 else 0) := fun x hx => by rw [← hf]; exact isB_byte hb (by omega)
  obtain ⟨r, hr⟩ : ∃ r, annB f c k d = r := ⟨_, rfl⟩
  rw [hf, hr]
  have hdep := arows_dep f c k d
  have hyes : Ann f c k d → r = true := fun h => by rw [← hr]; exact annB_true h
  have hno : ¬ Ann f c k d → r = false := fun h => by rw [← hr]; exact annB_false h
  rw [show (2:Nat) ^ k = m by omega] at hdep
  have HD := Lib.hid (show (DepR (bitR (arows f c d m m)) (arows f c d m m).length ((List.range m).filter (fun x => f x == c)).length → r = true) ∧ (¬ DepR (bitR (arows f c d m m)) (arows f c d m m).length ((List.range m).filter (fun x => f x == c)).length → r = false) from ⟨fun h => hyes (hdep.1 h), fun h => hno (fun h2 => h (hdep.2 h2))⟩)
  have HM := Lib.hid hm
  have HBT := Lib.hid hbit
  have hsm : (s.size : Int) = (m : Int) := by rw [hm]
  have hm0 : 0 < m := by omega
  obtain ⟨q, hq⟩ : ∃ q, vB c = q := ⟨_, rfl⟩
  rw [hq]
  have HQ := Lib.hid hq
  clear hdep hyes hno hr hf hsz hb hbit hpos hq
  go_enter Tryd.func29, Tryd.ntmps29
  go_wp2_with fail
  have HO0 := Lib.hid (show OwnAt w (w.alloc (.cells #[] 54)) (lbO w.heap.size 0 []) from (OwnAt.start w).new ⟨#[], rfl, rfl, by simp, by simp [maxLen], by simp⟩)
  go_loopg [8, 7] m (fun gh v8 v7 wr => ∃ (u go co : Nat) (rs : List Rb), u ≤ m ∧ gh = m - u ∧ v8 = .int .i64 (u : Nat) ∧ v7 = .slice (some ⟨go, 0, none⟩) rs.length co ∧ Hid (rs.map Rb.zs = arows f c d m u) ∧ Hid (OwnAt w wr (lbO go co rs)))
  case atStart => exact ⟨0, _, 0, [], Nat.zero_le _, rfl, rfl, rfl, Lib.hid rfl, HO0⟩
  case round =>
    clear HO0
    obtain ⟨u, go, co, rs, hu, rfl, rfl, rfl, HR, HO⟩ := hrel
    by_cases hlt : u < m
    · have hu0 : (0:Int) ≤ (u:Int) := by omega
      have hui : (u:Int) < (m:Int) := by omega
      have HW := Lib.hid (l04Weight_any u · (by omega))
      have hrl : rs.length ≤ 64 := by
        have := congrArg List.length HR.out
        have h2 := arows_len f c d m u
        rw [List.length_map] at this
        omega
      obtain ⟨P, hP⟩ : ∃ P, pop6 u = P := ⟨_, rfl⟩
      rw [hP] at HW
      by_cases hPd : (d:Int) < (P:Int)
      · have HN := Lib.hid (arows_no (f := f) (c := c) (d := d) (m := m) (u := u) (by rw [hP]; exact hPd))
        clear hP
        go_wp2_with fail
        refine (HW.out _).mono ?_
        rintro e w1 ⟨rfl, rfl⟩
        go_wp2
        go_roundg (m - (u + 1))
        case measure => omega
        case rel => exact ⟨u + 1, go, co, rs, by omega, rfl, by go_num, rfl, Lib.hid (by rw [HN.out]; exact HR.out), HO⟩
      · have HN := Lib.hid (arows_yes (f := f) (c := c) (d := d) (m := m) (u := u) (by rw [hP]; omega))
        have hPd2 : decide (d < P) = false := decide_eq_false (by omega)
        clear hP
        go_wp2_with fail
        refine (HW.out _).mono ?_
        rintro e w1 ⟨rfl, rfl⟩
        go_wp2
        have HO1 := Lib.hid (show OwnAt w (w1.alloc (.cells #[] 4)) (Rb.o ⟨w1.heap.size, 0, []⟩ :: lbO go co rs) from HO.out.new ⟨#[], rfl, rfl, by simp, by simp [maxLen], by simp⟩)
        go_loopg [10, 9] m (fun gh v10 v9 wx => ∃ (x : Nat) (r : Rb), x ≤ m ∧ gh = m - x ∧ v10 = .int .i64 (x : Nat) ∧ v9 = .slice (some ⟨r.g, 0, none⟩) r.zs.length r.c ∧ Hid (r.zs = arow f c u x) ∧ Hid (OwnAt w wx (r.o :: lbO go co rs)))
        case atStart => exact ⟨0, ⟨w1.heap.size, 0, []⟩, Nat.zero_le _, rfl, rfl, rfl, Lib.hid rfl, HO1⟩
        case round =>
          clear HO1 HO
          obtain ⟨x, rr, hx, rfl, rfl, rfl, HZ, HO⟩ := hrel
          by_cases hxm : x < m
          · have hx0 : (0:Int) ≤ (x:Int) := by omega
            have hxi : (x:Int) < (m:Int) := by omega
            have hg := get_by8 s x (by rw [HM.out]; exact hxm)
            have hb1 := HBT.out x hxm
            have hand := and_i64 u x (by omega) (by omega)
            have hrfl : ∀ b : Bool, (48 + (if b then 1 else 0) : Int) = if b then 49 else 48 := by decide
            rw [hrfl, ← hg] at hb1
            have hzl : rr.zs.length ≤ 64 := by
              have h1 := HZ.out
              have h2 := arow_len f c u x
              rw [← h1] at h2
              omega
            obtain ⟨y, hy⟩ : ∃ y, u &&& x = y := ⟨_, rfl⟩
            rw [hy] at hand
            clear hg hrfl
            cases hfc : (f x == c) with
            | true =>
              have HROW := Lib.hid (arow_yes (u := u) hfc)
              have hb2 : (s[x].toNat : Int) = vB c := by
                rw [hb1]
                cases c <;> cases hfx : f x <;> rw [hfx] at hfc <;> first | rfl | (cases hfc)
              rw [HQ.out] at hb2
              clear hb1 hfc
              by_cases hyu : (y : Int) = (u : Int)
              · have HYU := Lib.hid (show (u &&& x == u) = true by rw [hy]; simp; omega)
                clear hy
                go_wp2_with (at_builtin; refine wpList_ap1 rfl (.tmp 41) (.tmp 47) 54 rfl w.heap.size 4 (.bool false) 1 Tryd.underlying54 Tryd.infoB rfl _ rr.zs.length _ rfl (Rb.own HO.out true) wr.heap.size (.bool true) rfl (by go_simp) rfl (by omega) (by omega) (by have := HO.out.2.size; simp only [alloc_size]; omega) ?_)
                intro v' wy hown hgrow hat
                obtain ⟨g2, c2, rfl, O2⟩ := Rb.push HO.out hown hgrow (by rw [alloc_size]; exact hat)
                have HO3 := Lib.hid O2
                clear hown hgrow hat O2
                go_wp2
                go_roundg (m - (x + 1))
                case measure => omega
                case rel => exact ⟨x + 1, ⟨g2, c2, rr.zs ++ [true]⟩, by omega, rfl, by go_num, by simp, Lib.hid (by rw [HROW.out, HZ.out, HYU.out]), HO3⟩
              · have HYU := Lib.hid (show (u &&& x == u) = false by rw [hy]; simp; omega)
                clear hy
                have hbeq : ((y : Int) == (u : Int)) = false := by simp; omega
                go_wp2_with (at_builtin; refine wpList_ap1 rfl (.tmp 41) (.tmp 47) 54 rfl w.heap.size 4 (.bool false) 1 Tryd.underlying54 Tryd.infoB rfl _ rr.zs.length _ rfl (Rb.own HO.out false) wr.heap.size (.bool false) rfl (by go_simp) rfl (by omega) (by omega) (by have := HO.out.2.size; simp only [alloc_size]; omega) ?_)
                intro v' wy hown hgrow hat
                obtain ⟨g2, c2, rfl, O2⟩ := Rb.push HO.out hown hgrow (by rw [alloc_size]; exact hat)
                have HO3 := Lib.hid O2
                clear hown hgrow hat O2
                go_wp2
                go_roundg (m - (x + 1))
                case measure => omega
                case rel => exact ⟨x + 1, ⟨g2, c2, rr.zs ++ [false]⟩, by omega, rfl, by go_num, by simp, Lib.hid (by rw [HROW.out, HZ.out, HYU.out]), HO3⟩
            | false =>
              have HROW := Lib.hid (arow_no (u := u) hfc)
              have hb2 : ¬ (s[x].toNat : Int) = vB c := by
                rw [hb1]
                cases c <;> cases hfx : f x <;> rw [hfx] at hfc <;> first | (cases hfc; done) | decide
              rw [HQ.out] at hb2
              clear hb1 hfc hy
              go_wp2
              go_roundg (m - (x + 1))
              case measure => omega
              case rel => exact ⟨x + 1, rr, by omega, rfl, by go_num, rfl, Lib.hid (by rw [HROW.out, HZ.out]), HO⟩
          · obtain rfl : x = m := by omega
            have hB := HO.out.2.size
            have HZL := Lib.hid (show rr.zs.length ≤ 64 by rw [HZ.out]; have := arow_len f c u x; omega)
            go_wp2_with (at_builtin; refine wpList_ap1 rfl (.tmp 49) (.tmp 51) 53 rfl w.heap.size 54 (.slice none 0 0) 24 Tryd.underlying53 Tryd.infoLB rfl _ rs.length _ rfl (lbOwn HO.out) wr.heap.size rr.v rfl (by unfold Rb.v; go_simp) rfl (by omega) (by omega) (by simp only [alloc_size]; omega) ?_)
            intro v' wy hown hgrow hat
            obtain ⟨g2, c2, rfl, O2⟩ := lbPush HO.out hown hgrow (by rw [alloc_size]; exact hat)
            have HO3 := Lib.hid O2
            clear hown hgrow hat O2
            go_wp2
            go_roundg (x - (u + 1))
            case measure => omega
            case rel => exact ⟨u + 1, g2, c2, rs ++ [rr], by omega, rfl, by go_num, by simp, Lib.hid (by rw [HN.out, List.map_append, HR.out, List.map_singleton, HZ.out]), HO3⟩
    · obtain rfl : u = m := by omega
      have hN : rs.length = (arows f c d u u).length := by
        have := congrArg List.length HR.out
        rwa [List.length_map] at this
      have hlens : ∀ q ∈ rs, q.zs.length = ((List.range u).filter (fun x => f x == c)).length := fun q hq => arows_mem (by rw [← HR.out]; exact List.mem_map_of_mem hq)
      have hNp := arows_pos f c d u u hm0
      have hN64 := arows_len f c d u u
      have hM64 : ((List.range u).filter (fun x => f x == c)).length ≤ u := Nat.le_trans (List.length_filter_le _ _) (by simp)
      have hec := ec_start (bitR (arows f c d u u)) (arows f c d u u).length ((List.range u).filter (fun x => f x == c)).length
      have hec2 : Ec (bitR (arows f c d u u)) (bitR (rs.map Rb.zs)) (arows f c d u u).length ((List.range u).filter (fun x => f x == c)).length 0 0 := by rw [HR.out]; exact hec
      have hHD := HD.out
      obtain ⟨R0, hR0⟩ : ∃ R0, bitR (arows f c d u u) = R0 := ⟨_, rfl⟩
      obtain ⟨N, hN2⟩ : ∃ N, (arows f c d u u).length = N := ⟨_, rfl⟩
      obtain ⟨M, hM2⟩ : ∃ M, ((List.range u).filter (fun x => f x == c)).length = M := ⟨_, rfl⟩
      rw [hR0, hN2, hM2] at hec2 hHD
      rw [hN2] at hN hNp hN64
      rw [hM2] at hlens hM64
      have HD2 := Lib.hid hHD
      have HL0 := Lib.hid (And.intro hlens hec2)
      clear hec hec2 hHD hR0 hN2 hM2 hlens HD HR
      rw [hN]
      have hNl : (0:Int) < (N:Int) := by omega
      go_wp2
      go_loopg [12, 11] M (fun gh v12 v11 wr => ∃ (cc r : Nat) (L : List Rb), cc ≤ M ∧ gh = M - cc ∧ v12 = .int .i64 (cc : Nat) ∧ v11 = .int .i64 (r : Nat) ∧ L.length = N ∧ Hid ((∀ q ∈ L, q.zs.length = M) ∧ Ec R0 (bitR (L.map Rb.zs)) N M r cc) ∧ Hid (OwnAt w wr (lbO go co L)))
      case atStart => exact ⟨0, 0, rs, Nat.zero_le _, rfl, rfl, rfl, hN, HL0, HO⟩
      case round =>
        clear HO HL0 hN
        obtain ⟨cc, rk, L, hcc, rfl, rfl, rfl, hLN, HL, HO⟩ := hrel
        have hrN : rk ≤ N := HL.out.2.1
        obtain ⟨q0, hq0⟩ : ∃ q, L[0]? = some q := ⟨_, List.getElem?_eq_getElem (by omega)⟩
        have c0 := lbCell0 HO.out.1 0 hq0
        rw [HL.out.1 q0 (List.mem_of_getElem? hq0)] at c0
        clear hq0
        by_cases hcM : cc < M
        · have hcMi : (cc:Int) < (M:Int) := by omega
          have hcc0 : (0:Int) ≤ (cc:Int) := by omega
          go_wp2
          go_loopg [13] (N - rk) (fun gh v13 wx => ∃ a : Nat, rk ≤ a ∧ a ≤ N ∧ gh = N - a ∧ v13 = .int .i64 (a : Nat) ∧ Hid (∀ j, rk ≤ j → j < a → bitR (L.map Rb.zs) j cc = false) ∧ wx = wr)
          case atStart => exact ⟨rk, Nat.le_refl _, hrN, rfl, rfl, Lib.hid (fun j h1 h2 => by omega), rfl⟩
          case round =>
            clear c0
            obtain ⟨a, hra, haN, rfl, rfl, HZ, rfl⟩ := hrel
            by_cases hal : a < N
            · have hai : (a:Int) < (N:Int) := by omega
              have ha0 : (0:Int) ≤ (a:Int) := by omega
              obtain ⟨qa, hqa⟩ : ∃ q, L[a]? = some q := ⟨_, List.getElem?_eq_getElem (by omega)⟩
              have hqM := HL.out.1 qa (List.mem_of_getElem? hqa)
              have ca := lbCell0 HO.out.1 a hqa
              have cb := lbBit0 HO.out.1 a hqa cc (by omega)
              have hbr := bitR_at hqa cc
              rw [hqM] at ca
              obtain ⟨b, hb⟩ : ∃ b, qa.zs.getD cc false = b := ⟨_, rfl⟩
              rw [hb] at cb hbr
              have HQA := Lib.hid (And.intro hqa (And.intro hqM hbr))
              clear hqa hqM hbr hb
              cases b with
              | false =>
                go_wp2
                go_roundg (N - (a + 1))
                case measure => omega
                case rel => exact ⟨a + 1, by omega, by omega, rfl, by go_num, Lib.hid (fun j h1 h2 => by
                  by_cases e : j = a
                  · rw [e]; exact HQA.out.2.2
                  · exact HZ.out j h1 (by omega)), rfl⟩
              | true =>
                have haN2 : ((a : Int) == (N : Int)) = false := by simp; omega
                have hrkN : rk < N := by omega
                have hrki : (rk:Int) < (N:Int) := by omega
                have hrk0 : (0:Int) ≤ (rk:Int) := by omega
                obtain ⟨qr, hqr⟩ : ∃ q, L[rk]? = some q := ⟨_, List.getElem?_eq_getElem (by omega)⟩
                have hqrM := HL.out.1 qr (List.mem_of_getElem? hqr)
                have cr := lbCell0 HO.out.1 rk hqr
                rw [hqrM] at cr
                have fr : ∀ j, wr.frozen? ⟨go, j, none⟩ = false := fun j => HO.out.1.frozenAt 0 rfl j
                have hsw := lbSwap HO.out.1 HQA.out.1 hqr
                obtain ⟨y2, hy2⟩ : ∃ y, (wr.setCell ⟨go, a, none⟩ qr.v).cell? ⟨go, rk, none⟩ = some y := ⟨_, by
                  rw [(HO.out.1.setRow 0 rfl a qr.v).cellAt 0 rfl rk (by simp; omega), List.getElem?_eq_getElem (by simp; omega)]⟩
                have fr2 : (wr.setCell ⟨go, a, none⟩ qr.v).frozen? ⟨go, rk, none⟩ = false := (HO.out.1.setRow 0 rfl a qr.v).frozenAt 0 rfl rk
                have hB0 := (HO.out.1.lt (List.mem_of_getElem? (i := 0) rfl)).1
                have hbel := (HO.out.2.setCell hB0 (p := ⟨go, a, none⟩) qr.v).setCell hB0 (p := ⟨go, rk, none⟩) qa.v
                have hei := ei_start HL.out.2 hcM hra hal HQA.out.2.2 (R' := bitR (((L.set a qr).set rk qa).map Rb.zs)) (fun j x => bitR_swap HQA.out.1 hqr j x)
                have hlens : ∀ q ∈ (L.set a qr).set rk qa, q.zs.length = M := fun q hq => by
                  rcases List.mem_or_eq_of_mem_set hq with h1 | rfl
                  · rcases List.mem_or_eq_of_mem_set h1 with h1 | rfl
                    · exact HL.out.1 q h1
                    · exact hqrM
                  · exact HQA.out.2.1
                have hget : ((L.set a qr).set rk qa)[rk]? = some qa := by
                  rw [List.getElem?_set_self (by simp; omega)]
                unfold Rb.v at hsw hbel hy2 fr2
                rw [HQA.out.2.1, hqrM] at hsw hbel
                rw [hqrM] at hy2 fr2
                have HS := Lib.hid (And.intro (show ((L.set a qr).set rk qa).length = N by simp [hLN]) (And.intro hlens (And.intro hget hei)))
                have HO2 := Lib.hid (show OwnAt w _ _ from ⟨hsw, hbel⟩)
                clear hsw hbel hei hlens hget hqr hqrM HL HO HZ HQA hB0
                go_wp2
                go_loopg [15] (N - (rk + 1)) (fun gh v15 wx => ∃ (i : Nat) (Lc : List Rb), rk + 1 ≤ i ∧ i ≤ N ∧ gh = N - i ∧ v15 = .int .i64 (i : Nat) ∧ Hid (Lc.length = N ∧ (∀ q ∈ Lc, q.zs.length = M) ∧ Lc[rk]? = some qa ∧ Ei R0 (bitR (Lc.map Rb.zs)) N M rk cc i) ∧ Hid (OwnAt w wx (lbO go co Lc)))
                case atStart => exact ⟨rk + 1, _, Nat.le_refl _, hrkN, rfl, by go_num, HS, HO2⟩
                case round =>
                  clear HS HO2 ca cb cr fr hy2 fr2
                  obtain ⟨i, Lc, hri, hiN, rfl, rfl, HS, HO⟩ := hrel
                  by_cases hil : i < N
                  · have hii : (i:Int) < (N:Int) := by omega
                    have hi0 : (0:Int) ≤ (i:Int) := by omega
                    obtain ⟨qi, hqi⟩ : ∃ q, Lc[i]? = some q := ⟨_, List.getElem?_eq_getElem (by rw [HS.out.1]; exact hil)⟩
                    have hqiM := HS.out.2.1 qi (List.mem_of_getElem? hqi)
                    have ci := lbCell0 HO.out.1 i hqi
                    have cb := lbBit0 HO.out.1 i hqi cc (by omega)
                    have hbr := bitR_at hqi cc
                    rw [hqiM] at ci
                    obtain ⟨b, hb⟩ : ∃ b, qi.zs.getD cc false = b := ⟨_, rfl⟩
                    rw [hb] at cb hbr
                    have HQI := Lib.hid (And.intro hqi (And.intro hqiM hbr))
                    clear hqi hqiM hbr hb
                    cases b with
                    | false =>
                      have HE := Lib.hid (ei_no HS.out.2.2.2 (by omega) HQI.out.2.2)
                      go_wp2
                      go_roundg (N - (i + 1))
                      case measure => omega
                      case rel => exact ⟨i + 1, Lc, by omega, by omega, rfl, by go_num, Lib.hid ⟨HS.out.1, HS.out.2.1, HS.out.2.2.1, HE.out⟩, HO⟩
                    | true =>
                      have HO1 := Lib.hid (show OwnAt w (wr.alloc (.cells #[] 4)) (Rb.o ⟨wr.heap.size, 0, []⟩ :: lbO go co Lc) from HO.out.new ⟨#[], rfl, rfl, by simp, by simp [maxLen], by simp⟩)
                      clear HO
                      go_wp2
                      go_loopg [17, 16] M (fun gh v17 v16 wx => ∃ (kk : Nat) (n : Rb), kk ≤ M ∧ gh = M - kk ∧ v17 = .int .i64 (kk : Nat) ∧ v16 = .slice (some ⟨n.g, 0, none⟩) n.zs.length n.c ∧ Hid (n.zs = (List.range kk).map (fun x => qi.zs.getD x false != qa.zs.getD x false)) ∧ Hid (OwnAt w wx (n.o :: lbO go co Lc)))
                      case atStart => exact ⟨0, ⟨wr.heap.size, 0, []⟩, Nat.zero_le _, rfl, rfl, rfl, Lib.hid rfl, HO1⟩
                      case round =>
                        clear HO1 ci cb
                        obtain ⟨kk, n, hkk, rfl, rfl, rfl, HZ, HO⟩ := hrel
                        have hO2 := HO.out.1.sub (List.sublist_cons_self _ _)
                        by_cases hkM : kk < M
                        · have hki : (kk:Int) < (M:Int) := by omega
                          have hk0 : (0:Int) ≤ (kk:Int) := by omega
                          have ci := lbCell0 hO2 i HQI.out.1
                          rw [HQI.out.2.1] at ci
                          have cx := lbBit0 hO2 i HQI.out.1 kk (by rw [HQI.out.2.1]; exact hkM)
                          have cy := lbBit0 hO2 rk HS.out.2.2.1 kk (by rw [HS.out.2.1 qa (List.mem_of_getElem? HS.out.2.2.1)]; exact hkM)
                          have hzl : n.zs.length = kk := by rw [HZ.out]; simp
                          have HZS := Lib.hid (show (List.range (kk + 1)).map (fun x => qi.zs.getD x false != qa.zs.getD x false) = n.zs ++ [qi.zs.getD kk false != qa.zs.getD kk false] by rw [List.range_succ, List.map_append, HZ.out]; rfl)
                          obtain ⟨x1, hx1⟩ : ∃ x1, qi.zs.getD kk false = x1 := ⟨_, rfl⟩
                          obtain ⟨x2, hx2⟩ : ∃ x2, qa.zs.getD kk false = x2 := ⟨_, rfl⟩
                          rw [hx1] at cx
                          rw [hx2] at cy
                          rw [hx1, hx2] at HZS
                          clear hx1 hx2 hO2
                          have HOW := Lib.hid (show (wr.alloc (.cells #[.bool (!(x1 == x2))] 4)).drew.ownsRow w.heap.size 4 1 (.slice (some ⟨n.g, 0, none⟩) kk n.c) kk (n.zs.map Value.bool) by
                            have := Rb.own HO.out (!(x1 == x2))
                            rw [hzl] at this
                            exact this.drew)
                          rw [hzl]
                          have HZL := Lib.hid hzl
                          clear hzl
                          go_wp2_with fail
                          go_region_law (first
                            | (refine step_ap1 rfl (.tmp 125) (.tmp 138) 54 rfl w.heap.size 4 (.bool false) 1 Tryd.underlying54 Tryd.infoB rfl _ kk _ rfl HOW.out wr.heap.size (.bool (!(x1 == x2))) rfl (by go_simp) rfl (by omega) (by omega) (by have := HO.out.2.size; simp only [heap_drew, alloc_size]; omega) ?_; intro v' w6 hown hgrow hat))
                          all_goals
                            rw [← HZL.out] at hown
                            obtain ⟨g2, c2, rfl, O2⟩ := Rb.push HO.out hown (grownBy_trans (grownBy_drewN _ 1 _) hgrow) hat
                            rw [HZL.out]
                            have HO3 := Lib.hid O2
                            clear hown hgrow hat O2
                            go_wp2
                            go_roundg (M - (kk + 1))
                            case measure => omega
                            case rel => exact ⟨kk + 1, ⟨g2, c2, n.zs ++ [!(x1 == x2)]⟩, by omega, rfl, by go_num, by simp [HZL.out], Lib.hid (by rw [HZS.out]; rfl), HO3⟩
                        · obtain rfl : kk = M := by omega
                          have hzl : n.zs.length = kk := by rw [HZ.out]; simp
                          have hpu := lbPut HO.out.1 i (by rw [HS.out.1]; exact hil)
                          have hB0 := (HO.out.1.lt (List.mem_of_getElem? (i := 1) rfl)).1
                          have hbel := HO.out.2.setCell hB0 (p := ⟨go, i, none⟩) n.v
                          unfold Rb.v at hpu hbel
                          rw [hzl] at hpu hbel ⊢
                          have ci := lbCell0 hO2 i HQI.out.1
                          have fr : wr.frozen? ⟨go, i, none⟩ = false := hO2.frozenAt 0 rfl i
                          have hei := ei_yes HS.out.2.2.2 (by omega) HQI.out.2.2 (R' := bitR ((Lc.set i n).map Rb.zs)) (fun j x => bitR_add HQI.out.1 HS.out.2.2.1 HQI.out.2.1 (HS.out.2.1 qa (List.mem_of_getElem? HS.out.2.2.1)) HZ.out j x)
                          have hlens : ∀ q ∈ Lc.set i n, q.zs.length = kk := fun q hq => by
                            rcases List.mem_or_eq_of_mem_set hq with h1 | rfl
                            · exact HS.out.2.1 q h1
                            · exact hzl
                          have hget : (Lc.set i n)[rk]? = some qa := by
                            rw [List.getElem?_set_ne (by omega)]
                            exact HS.out.2.2.1
                          have HS3 := Lib.hid (And.intro (show (Lc.set i n).length = N by rw [List.length_set]; exact HS.out.1) (And.intro hlens (And.intro hget hei)))
                          have HO3 := Lib.hid (show OwnAt w _ _ from ⟨hpu, hbel⟩)
                          clear hpu hbel hei hlens hget hB0 hzl HZ HO hO2 HS
                          go_wp2
                          go_roundg (N - (i + 1))
                          case measure => omega
                          case rel => exact ⟨i + 1, _, by omega, by omega, rfl, by go_num, HS3, HO3⟩
                  · obtain rfl : i = N := by omega
                    have HE := Lib.hid (ei_end HS.out.2.2.2)
                    go_wp2
                    go_roundg (M - (cc + 1))
                    case measure => omega
                    case rel => exact ⟨cc + 1, rk + 1, Lc, by omega, rfl, by go_num, by go_num, HS.out.1, Lib.hid ⟨HS.out.2.1, HE.out⟩, HO⟩
            · obtain rfl : a = N := by omega
              have HE := Lib.hid (ec_skip HL.out.2 hcM (fun j h1 h2 => HZ.out j h1 h2))
              go_wp2
              go_roundg (M - (cc + 1))
              case measure => omega
              case rel => exact ⟨cc + 1, rk, L, by omega, rfl, by go_num, rfl, hLN, Lib.hid ⟨HL.out.1, HE.out⟩, HO⟩
        · obtain rfl : cc = M := by omega
          have HE := Lib.hid (ec_end HL.out.2)
          by_cases hlt2 : rk < N
          · have HF := Lib.hid (HD2.out.1 (HE.out.1 hlt2))
            have hli : (rk:Int) < (N:Int) := by omega
            clear HE
            go_wp2
            go_ret
            exact ⟨by rw [HF.out]; rfl, HO.out.2⟩
          · have HF := Lib.hid (HD2.out.2 (fun h => hlt2 (HE.out.2 h)))
            clear HE
            go_wp2
            go_ret
            exact ⟨by rw [HF.out]; rfl, HO.out.2⟩
end Go.Proofs.YtgfkaldndaepfaaDoor

import Derived.Test.YtddmglgogjaajaaTree
import Derived.Test.YtddmglgogjaajaaPairC
import Derived.Test.YtddmglgogjaajaaAnyK
/- The cost of drawing by a tree: plain facts and what is kept in memory. No condition. -/
namespace Go.Proofs.Ytddmglgogjaajaa
open Go.RowKit
set_option linter.unusedVariables false

/-- The cost's numerator over 2 to the power of k, of the levels below m. -/
def tcN (ws : List Int) (k : Nat) : Nat → Nat
  | 0 => 0
  | m + 1 => tcN ws k m + m * (lvl ws k m).length * 2 ^ (k - m)
theorem lvl_len (ws : List Int) (k d : Nat) : (lvl ws k d).length ≤ ws.length := lvlTo_len ws k d ws.length
theorem tcN_le {ws : List Int} {k : Nat} (hk : k < 13) (hn : ws.length ≤ 16) : ∀ m, m ≤ k + 1 → tcN ws k m ≤ m * 1000000
  | 0, _ => by simp [tcN]
  | m + 1, h => by
    have ih := tcN_le (ws := ws) hk hn m (by omega)
    have h1 : m * (lvl ws k m).length ≤ 12 * 16 := Nat.mul_le_mul (by omega) (Nat.le_trans (lvl_len ws k m) hn)
    have h2 : 2 ^ (k - m) ≤ 2 ^ 12 := Nat.pow_le_pow_right (by omega) (by omega)
    have h3 : m * (lvl ws k m).length * 2 ^ (k - m) ≤ 12 * 16 * 2 ^ 12 := Nat.mul_le_mul h1 h2
    have h4 : (12 * 16 * 2 ^ 12 : Nat) = 786432 := by decide
    simp only [tcN]
    omega
/-- The sum so far. -/
def tcR (ws : List Int) (k m : Nat) : Rat := mkRat (tcN ws k m : Nat) (2 ^ k)
theorem pow_ne (k : Nat) : (2 ^ k : Nat) ≠ 0 := Nat.ne_of_gt (Nat.pow_pos (by omega))
theorem tcR_succ {ws : List Int} {k m : Nat} (hm : m ≤ k) : tcR ws k m + mkRat ((m * (lvl ws k m).length : Nat) : Int) (2 ^ m) = tcR ws k (m + 1) := by
  have hp : (2 : Nat) ^ k = 2 ^ (k - m) * 2 ^ m := by rw [← Nat.pow_add]; congr 1; omega
  unfold tcR
  rw [Rat.mkRat_add_mkRat _ _ (pow_ne k) (pow_ne m), Rat.mkRat_eq_iff (Nat.mul_ne_zero (pow_ne k) (pow_ne m)) (pow_ne k)]
  simp only [tcN]
  generalize m * (lvl ws k m).length = L
  generalize tcN ws k m = T
  rw [hp]
  generalize 2 ^ (k - m) = a
  generalize 2 ^ m = b
  simp only [Int.natCast_add, Int.natCast_mul]
  grind
theorem tcR_zero (ws : List Int) (k : Nat) : tcR ws k 0 = 0 := by simp [tcR, tcN]
theorem tcR_nonneg (ws : List Int) (k m : Nat) : 0 ≤ (tcR ws k m).num := by
  unfold tcR
  rw [mk_num (pow_ne k)]
  exact Int.ediv_nonneg (by omega) (by omega)
theorem tcR_small {ws : List Int} {k m : Nat} (hk : k < 13) (hn : ws.length ≤ 16) (hm : m ≤ k + 1) : (tcR ws k m).num.natAbs ≤ 13000000 ∧ (tcR ws k m).den ≤ 4096 := by
  have h1 := tcN_le (ws := ws) hk hn m hm
  have h2 : m * 1000000 ≤ 13000000 := by omega
  have h3 : 2 ^ k ≤ 2 ^ 12 := Nat.pow_le_pow_right (by omega) (by omega)
  unfold tcR
  rw [mk_abs (pow_ne k), mk_den (pow_ne k), Int.natAbs_natCast]
  exact ⟨Nat.le_trans (Nat.div_le_self _ _) (by omega), Nat.le_trans (Nat.div_le_self _ _) h3⟩
/-- The levels in memory: their lengths. -/
def Lv (w : World) (go k : Nat) (ws : List Int) : Prop := go < w.heap.size ∧ ∀ m, m ≤ k → ∃ g c, w.cell? ⟨go, m, none⟩ = some (.slice (some ⟨g, 0, none⟩) (lvl ws k m).length c)
theorem Lv.below {w w' : World} {go k : Nat} {ws : List Int} (h : Lv w go k ws) (hb : Below w.heap.size w w') : Lv w' go k ws :=
  ⟨Nat.lt_of_lt_of_le h.1 hb.size, fun m hm => by
    obtain ⟨g, c, e⟩ := h.2 m hm
    exact ⟨g, c, (hb.cell (p := ⟨go, m, none⟩) h.1).trans e⟩⟩
theorem Lv.set {w : World} {go k b o : Nat} {ws : List Int} (h : Lv w go k ws) (hne : b ≠ go) (v : Value) : Lv (w.setCell ⟨b, o, none⟩ v) go k ws :=
  ⟨by rw [World.size_setCell]; exact h.1, fun m hm => by
    obtain ⟨g, c, e⟩ := h.2 m hm
    exact ⟨g, c, by rw [World.cell?_setCell_other _ _ _ _ (fun e => hne (by injection e))]; exact e⟩⟩
theorem lv_of {w w' : World} {go co k : Nat} {ws : List Int} {rs : List Rw} (h : OwnAt w w' (llO go co rs)) (hr : rs.map Rw.zs = lvls ws k (k + 1)) : Lv w' go k ws ∧ w.heap.size ≤ go := by
  have hlt := h.1.lt (p := (go, rowO 30 co (rs.map Rw.v))) List.mem_cons_self
  refine ⟨⟨hlt.2, fun m hm => ?_⟩, hlt.1⟩
  have hl : rs.length = k + 1 := by have := congrArg List.length hr; simpa [lvls] using this
  have hm2 : m < rs.length := by omega
  have hz : rs[m].zs = lvl ws k m := by
    have e : (rs.map Rw.zs)[m]? = (lvls ws k (k + 1))[m]? := by rw [hr]
    rw [List.getElem?_map, List.getElem?_eq_getElem hm2] at e
    simp only [lvls, List.getElem?_map, List.getElem?_range (show m < k + 1 by omega), Option.map_some, Option.some.injEq] at e
    exact e
  have hc := llCell (post := []) (by rw [List.append_nil]; exact h.1) m (List.getElem?_eq_getElem hm2)
  rw [hz] at hc
  exact ⟨_, _, hc⟩
/-- What both costs are. -/
def tcV (ws : List Int) : Value := if treeOk ws = true then .tuple #[.agg #[.int .i64 (tcR ws (levelOf (totalR ws)).toNat ((levelOf (totalR ws)).toNat + 1)).num, .int .i64 ((tcR ws (levelOf (totalR ws)).toNat ((levelOf (totalR ws)).toNat + 1)).den : Nat)], .bool true] else .tuple #[.agg #[.int .i64 0, .int .i64 0], .bool false]
theorem tcV_form (ws : List Int) : ∃ p q b, tcV ws = .tuple #[.agg #[.int .i64 p, .int .i64 q], .bool b] := by
  unfold tcV
  split
  · exact ⟨_, _, _, rfl⟩
  · exact ⟨_, _, _, rfl⟩
end Go.Proofs.Ytddmglgogjaajaa

import Derived.Test.YthjndfbjalkckaaDoorDecP
import Derived.Lib.ParseIntBCases
import Derived.Lib.SplitLaws
/- Reading decimal numbers, and texts cut at commas: plain facts. No condition. -/
namespace Go.Proofs.YthjndfbjalkckaaDoor
set_option linter.unusedVariables false

/-- What digits spell, behind what is spelt already. -/
def hvL (acc : Nat) : List UInt8 → Nat
  | [] => acc
  | c :: r => hvL (acc * 10 + (c.toNat - 48)) r
def isDg (c : UInt8) : Bool := decide (48 ≤ c.toNat) && decide (c.toNat ≤ 57)
theorem isDg_iff {c : UInt8} : isDg c = true ↔ 48 ≤ c.toNat ∧ c.toNat ≤ 57 := by simp [isDg]
theorem hvL_app : ∀ (l m : List UInt8) (acc : Nat), hvL acc (l ++ m) = hvL (hvL acc l) m
  | [], m, acc => rfl
  | c :: l, m, acc => hvL_app l m _
theorem hvL_ge : ∀ (l : List UInt8) (acc : Nat), acc ≤ hvL acc l
  | [], acc => Nat.le_refl _
  | c :: l, acc => Nat.le_trans (by omega) (hvL_ge l _)
theorem hvL_take {l : List UInt8} {i : Nat} (h : i < l.length) : hvL 0 (l.take i) * 10 ≤ hvL 0 l := by
  have e : l = l.take i ++ (l[i] :: l.drop (i + 1)) := by rw [List.getElem_cons_drop, List.take_append_drop]
  rw [e, hvL_app]
  have h1 : hvL (hvL 0 (List.take i l)) (l[i] :: List.drop (i + 1) l) = hvL (hvL 0 (List.take i l) * 10 + (l[i].toNat - 48)) (List.drop (i + 1) l) := rfl
  rw [h1]
  have h2 := hvL_ge (List.drop (i + 1) l) (hvL 0 (List.take i l) * 10 + (l[i].toNat - 48))
  have h3 : List.take i (List.take i l ++ l[i] :: List.drop (i + 1) l) = List.take i l := by rw [← e]
  rw [h3]
  omega
theorem toB_dig {z : Int} (h : 48 ≤ z ∧ z ≤ 57) : (UInt8.ofNat z.toNat).toNat = z.toNat := by
  rw [UInt8.toNat_ofNat']
  omega
theorem hv_dgs (u : Nat) : hvL 0 (toB (dgs u).reverse) = u := by
  induction u using Nat.strongRecOn with
  | _ u ih =>
    by_cases h0 : u = 0
    · subst h0; rw [dgs_zero]; rfl
    · rw [dgs_pos h0]
      simp only [toB, List.reverse_cons, List.map_append, List.map_cons, List.map_nil]
      have h1 := ih (u / 10) (by omega)
      unfold toB at h1
      rw [hvL_app, h1]
      show u / 10 * 10 + ((UInt8.ofNat (48 + ((u % 10 : Nat) : Int)).toNat).toNat - 48) = u
      rw [toB_dig (by omega)]
      omega
/-- How the text of a number is made. -/
theorem itoa_form (n : Int) (h : n.natAbs < 10 ^ 19) : ∃ dg : List UInt8, Lib.itoa n = (if n < 0 then 45 :: dg else dg) ∧ dg ≠ [] ∧ (∀ c ∈ dg, isDg c = true) ∧ hvL 0 dg = n.natAbs ∧ dg.length ≤ 19 := by
  rw [← decN_itoa]
  unfold decN
  by_cases h0 : n = 0
  · subst h0
    exact ⟨[48], rfl, by simp, by simp [isDg], rfl, by simp⟩
  · rw [if_neg h0]
    refine ⟨toB (dgs n.natAbs).reverse, ?_, ?_, ?_, hv_dgs _, ?_⟩
    · by_cases hn : n < 0
      · rw [if_pos hn, if_pos hn]; simp [toB]
      · rw [if_neg hn, if_neg hn]; simp [toB]
    · rw [dgs_pos (by omega)]; simp [toB]
    · intro c hc
      simp only [toB, List.mem_map, List.mem_reverse] at hc
      obtain ⟨z, hz, rfl⟩ := hc
      have hb := dgs_bd _ z hz
      rw [isDg_iff, toB_dig hb]
      omega
    · have := dgs_len 19 _ h
      simp only [toB, List.length_map, List.length_reverse]
      exact this
theorem parse_mag (M : Nat) (hM : 10 ^ 18 ≤ M) : ∀ (l : List UInt8) (acc : Nat), (∀ c ∈ l, isDg c = true) → hvL acc l ≤ 10 ^ 18 → Lib.parseUintM M acc l = .ok (hvL acc l)
  | [], acc, _, _ => rfl
  | c :: l, acc, hd, hv => by
    have h1 := isDg_iff.1 (hd c List.mem_cons_self)
    have h2 := hvL_ge l (acc * 10 + (c.toNat - 48))
    have hv2 : hvL (acc * 10 + (c.toNat - 48)) l ≤ 10 ^ 18 := hv
    rw [Lib.parseUintM, if_pos h1, if_neg (by omega), if_neg (by omega)]
    exact parse_mag M hM l _ (fun c hc => hd c (List.mem_cons_of_mem _ hc)) hv
/-- What is printed is read. -/
theorem parse_itoa (n : Int) (h : n.natAbs ≤ 10 ^ 18) : Lib.parseIntB 64 (Lib.itoa n) = .ok n := by
  obtain ⟨dg, he, hne, hd, hv, _⟩ := itoa_form n (by omega)
  have hp : Lib.parseUintB 64 dg = .ok n.natAbs := by
    unfold Lib.parseUintB
    rw [if_neg hne, parse_mag _ (by decide) dg 0 hd (by rw [hv]; exact h), hv]
  rw [he]
  by_cases hn : n < 0
  · rw [if_pos hn, Lib.parseIntB]
    simp only [show (45 : UInt8).toNat = 45 from rfl, or_true, if_true, hp]
    rw [if_neg (by simp), if_neg (by simp; omega)]
    congr 1
    omega
  · rw [if_neg hn]
    cases dg with
    | nil => exact absurd rfl hne
    | cons c r =>
      have hc := isDg_iff.1 (hd c List.mem_cons_self)
      rw [Lib.parseIntB]
      rw [if_neg (show ¬ (c.toNat = 43 ∨ c.toNat = 45) by omega), hp]
      show (if ¬ c.toNat = 45 ∧ 2 ^ 63 ≤ n.natAbs then (Lib.NumEnd.range : Lib.NumEnd Int) else if c.toNat = 45 ∧ 2 ^ 63 < n.natAbs then .range else .ok (if c.toNat = 45 then -(n.natAbs : Int) else (n.natAbs : Int))) = _
      rw [if_neg (by omega), if_neg (by omega), if_neg (by omega)]
      congr 1
      omega
/-- The number with a text, if its text is this one and it is not too great. -/
def rdL (l : List UInt8) : Option Int := match Lib.parseIntB 64 l with
  | .ok n => if n.natAbs ≤ 10 ^ 15 ∧ Lib.itoa n = l then some n else none
  | _ => none
theorem rdL_of {n : Int} (h : n.natAbs ≤ 10 ^ 15) : rdL (Lib.itoa n) = some n := by
  unfold rdL
  rw [parse_itoa n (by omega)]
  show (if n.natAbs ≤ 10 ^ 15 ∧ Lib.itoa n = Lib.itoa n then some n else none) = _
  rw [if_pos ⟨h, rfl⟩]
theorem rdL_some {l : List UInt8} {n : Int} (h : rdL l = some n) : n.natAbs ≤ 10 ^ 15 ∧ Lib.itoa n = l := by
  unfold rdL at h
  split at h
  · split at h
    · injection h with e; subst e; assumption
    · cases h
  · cases h
theorem rdL_none {l : List UInt8} (h : ∀ n : Int, n.natAbs ≤ 10 ^ 15 → Lib.itoa n ≠ l) : rdL l = none := by
  cases hr : rdL l with
  | none => rfl
  | some n => exact absurd (rdL_some hr).2 (h n (rdL_some hr).1)
/-- A text cut at commas, behind what is cut already. -/
def spA (cur : List UInt8) : List UInt8 → List (List UInt8)
  | [] => [cur]
  | c :: r => if c = 44 then cur :: spA [] r else spA (cur ++ [c]) r
theorem spA_cur : ∀ (l cur : List UInt8), ∃ h t, spA [] l = h :: t ∧ spA cur l = (cur ++ h) :: t
  | [], cur => ⟨[], [], rfl, by simp [spA]⟩
  | c :: l, cur => by
    by_cases hc : c = 44
    · exact ⟨[], spA [] l, by rw [spA, if_pos hc], by rw [spA, if_pos hc]; simp⟩
    · obtain ⟨h1, t1, e1, e2⟩ := spA_cur l ([] ++ [c])
      obtain ⟨h2, t2, e3, e4⟩ := spA_cur l (cur ++ [c])
      rw [e1] at e3
      injection e3 with e5 e6
      subst e5 e6
      exact ⟨[c] ++ h1, t1, by rw [spA, if_neg hc, e2]; rfl, by rw [spA, if_neg hc, e4]; simp⟩
theorem split_spA : ∀ l : List UInt8, Lib.splitK [44] 0 (Lib.count l [44]) l = spA [] l
  | [] => by rw [Lib.count_miss (by simp [Lib.index])]; rfl
  | b :: l => by
    have ih := split_spA l
    by_cases h : b = 44
    · subst h
      have hix : Lib.index (44 :: l) [44] = 0 := by rw [Lib.index]; simp [List.isPrefixOf]
      rw [Lib.count_cons_eq, Nat.add_comm, Lib.splitK, hix, if_neg (by decide), spA, if_pos rfl, ← ih]
      rfl
    · rw [Lib.count_cons_ne b 44 l h, spA, if_neg h]
      obtain ⟨hd, tl, e1, e2⟩ := spA_cur l ([] ++ [b])
      rw [e2]
      rw [e1] at ih
      have hp : ([44] : List UInt8).isPrefixOf (b :: l) = false := by simp [List.isPrefixOf, Ne.symm h]
      have hix : Lib.index (b :: l) [44] = if Lib.index l [44] == -1 then -1 else Lib.index l [44] + 1 := by rw [Lib.index, hp]; simp
      by_cases hm : Lib.index l [44] = -1
      · rw [Lib.count_miss hm] at ih ⊢
        have ih2 : [l] = hd :: tl := ih
        injection ih2 with e3 e4
        subst e3 e4
        rfl
      · have hge := Lib.index_ge l [44]
        obtain ⟨j, hj⟩ : ∃ j : Nat, Lib.index l [44] = j := ⟨(Lib.index l [44]).toNat, by omega⟩
        have hix' : Lib.index (b :: l) [44] = ((j + 1 : Nat) : Int) := by rw [hix, if_neg (fun e => hm (beq_iff_eq.1 e)), hj]; omega
        rw [Lib.count_hit (by simp) hj, Nat.add_comm, Lib.splitK, hj, if_neg (by simp)] at ih
        rw [Lib.count_hit (by simp) hj, Nat.add_comm, Lib.splitK, hix', if_neg (by simp; omega)]
        injection ih with e3 e4
        rw [← e3, ← e4]
        simp
/-- The words of a list: read one behind the other, at most 64. -/
def goV : List Int → List (List UInt8) → Option (List Int)
  | acc, [] => some acc
  | acc, w :: ws => match rdL w with
    | none => none
    | some n => if acc.length = 64 then none else goV (acc ++ [n]) ws
theorem goV_none {acc : List Int} {w : List UInt8} {ws : List (List UInt8)} (h : rdL w = none) : goV acc (w :: ws) = none := by rw [goV, h]
theorem goV_some {acc : List Int} {w : List UInt8} {ws : List (List UInt8)} {n : Int} (h : rdL w = some n) : goV acc (w :: ws) = if acc.length = 64 then none else goV (acc ++ [n]) ws := by rw [goV, h]
def noneT : List UInt8 := [110, 111, 110, 101]
def numsL (l : List UInt8) : Option (List Int) := if l = noneT then some [] else goV [] (spA [] l)
end Go.Proofs.YthjndfbjalkckaaDoor

import Derived.Test.YtpineiocjaajnaaDoorCtW
import Derived.Test.YtpineiocjaajnaaDoorLawAX
import Derived.Test.YtpineiocjaajnaaDoorLawR
/- The text of a law: the law FnExactLawText. Condition: the table of powers of ten is laid. -/
namespace Go.Proofs.YtpineiocjaajnaaDoor
open Go.RowKit
set_option linter.unusedVariables false

/-- The text of a fraction. -/
def frB (p q : Int) : ByteArray := if q = 1 then itB p else itB p ++ { data := #[47] } ++ itB q
theorem frB_size {p q : Int} (hp : p.natAbs < 10 ^ 19) (hq : q.natAbs < 10 ^ 19) : (frB p q).size ≤ 41 := by
  have h1 := itB_size hp
  have h2 := itB_size hq
  have h3 : ByteArray.size { data := #[47] } = 1 := rfl
  unfold frB
  split
  · omega
  · rw [ByteArray.size_append, ByteArray.size_append, h3]; omega
set_option maxRecDepth 20000 in
theorem fractionText_any (p q : Int) (w : World) (hp : p.natAbs ≤ 1000000000000000000) (hq : q.natAbs ≤ 1000000000000000000) (ht : TabT w) :
    Calls Tryd.prog 46 #[.agg #[.int .i64 p, .int .i64 q]] w fun e w' => e = .returned (.string (frB p q)) ∧ Below w.heap.size w w' := by
  have hA := (Below.refl _ w).alloc (Nat.le_refl _) (.cells #[.int .i64 p, .int .i64 q] 49)
  have H0 := Lib.hid (And.intro (C2.new w 49 (.int .i64 p) (.int .i64 q)) hA)
  have HT0 := Lib.hid (ht.below hA)
  have HP := Lib.hid (fun w ht => decimal_any p w (by omega) (by omega) ht)
  have HQ := Lib.hid (fun w ht => decimal_any q w (by omega) (by omega) ht)
  have hx20 : (itB p).size ≤ 20 := itB_size (by omega)
  have hy20 : (itB q).size ≤ 20 := itB_size (by omega)
  obtain ⟨X, hX⟩ : ∃ X, itB p = X := ⟨_, rfl⟩
  obtain ⟨Y, hY⟩ : ∃ Y, itB q = Y := ⟨_, rfl⟩
  have HF0 := Lib.hid (show frB p q = if q = 1 then X else X ++ { data := #[47] } ++ Y by unfold frB; rw [hX, hY])
  have hs47 : ByteArray.size { data := #[47] } = 1 := rfl
  have hs58 : ByteArray.size { data := #[58] } = 1 := rfl
  have hs32 : ByteArray.size { data := #[32] } = 1 := rfl
  rw [hX] at HP hx20
  rw [hY] at HQ hy20
  clear hX hY hA
  by_cases h1 : q = 1
  · have HF := Lib.hid (show frB p q = X by rw [HF0.out, if_pos h1])
    go_enter Tryd.func46, Tryd.ntmps46
    go_wp2_with fail
    obtain ⟨wA, hwA⟩ : ∃ w', w.alloc (.cells #[.int .i64 p, .int .i64 q] 49) = w' := ⟨_, rfl⟩
    subst h1
    rw [hwA] at H0 HT0 ⊢
    clear hwA
    refine (HP.out _ HT0.out).mono ?_
    rintro e w1 ⟨rfl, hb⟩
    have HB := Lib.hid (bthen H0.out.2 hb)
    clear hb
    go_wp2_with fail
    go_ret
    exact ⟨by rw [HF.out]; rfl, HB.out⟩
  · have HF := Lib.hid (show frB p q = X ++ { data := #[47] } ++ Y by rw [HF0.out, if_neg h1])
    go_enter Tryd.func46, Tryd.ntmps46
    go_wp2_with fail
    obtain ⟨wA, hwA⟩ : ∃ w', w.alloc (.cells #[.int .i64 p, .int .i64 q] 49) = w' := ⟨_, rfl⟩
    rw [hwA] at H0 HT0 ⊢
    clear hwA
    obtain ⟨b, hbb⟩ : ∃ b, w.heap.size = b := ⟨_, rfl⟩
    have HC := Lib.hid (show C2 wA b (.int .i64 p) (.int .i64 q) by rw [← hbb]; exact H0.out.1)
    have HBA := Lib.hid H0.out.2
    have HT := HT0
    rw [hbb]
    rw [hbb] at HBA
    have HBB := Lib.hid hbb
    clear hbb H0
    have HSA : Hid (∀ w', Below wA.heap.size wA w' → w'.cell? ⟨b, 0, none⟩ = some (.int .i64 p) ∧ w'.cell? ⟨b, 1, none⟩ = some (.int .i64 q)) := Lib.hid (fun w' hb => ⟨(HC.out.all hb).1, (HC.out.all hb).2⟩)
    have HB := Lib.hid ((Below.refl wA.heap.size wA).drew)
    have hS := HSA.out _ HB.out
    refine wp_region_any (by kernel_rfl) (any_of_K (k := 8) (S := fun w' => w'.cell? ⟨b, 0, none⟩ = some (.int .i64 p) ∧ w'.cell? ⟨b, 1, none⟩ = some (.int .i64 q)) (T := fun _ => True) _ _ _ _ ?_)
    change anyK _ _ _ _ _ _ _ _ _ _ (World.drew wA)
    obtain ⟨v, hv⟩ : ∃ w', wA.drew = w' := ⟨_, rfl⟩
    rw [hv] at HB hS ⊢
    clear hv
    refine anyT_take (i := 0) (n := 8) (v := .pointer (some ⟨b, 0, none⟩)) rfl (by decide) (by kernel_rfl) (by kernel_rfl) (by kernel_rfl) (fun _ _ _ h => h) (Or.inl ⟨by kernel_rfl, fun w' hw => by go_simp⟩) hS trivial ?_
    refine anyK_take (i := 1) (n := 7) (v := .int .i64 p) rfl rfl (by kernel_rfl) (by kernel_rfl) (by kernel_rfl) (by kernel_rfl) (by kernel_rfl) (fun _ _ _ h => h) (Or.inl ⟨by kernel_rfl, fun w' hw => by (obtain ⟨z0, z1⟩ := hw; go_simp)⟩) hS trivial ?_
    refine anyT_take (i := 4) (n := 6) (v := .pointer (some ⟨b, 1, none⟩)) rfl (by decide) (by kernel_rfl) (by kernel_rfl) (by kernel_rfl) (fun _ _ _ h => h) (Or.inl ⟨by kernel_rfl, fun w' hw => by go_simp⟩) hS trivial ?_
    refine anyK_take (i := 5) (n := 5) (v := .int .i64 q) rfl rfl (by kernel_rfl) (by kernel_rfl) (by kernel_rfl) (by kernel_rfl) (by kernel_rfl) (fun _ _ _ h => h) (Or.inl ⟨by kernel_rfl, fun w' hw => by (obtain ⟨z0, z1⟩ := hw; go_simp)⟩) hS trivial ?_
    refine anyK_all (n := 4) (rs := [2]) (by kernel_rfl) (by simp) (fun i hi => ?_)
    simp only [List.mem_cons, List.not_mem_nil, or_false] at hi
    obtain rfl := hi
    refine wpOp_step rfl (fun K' hK => ?_)
    go_simp
    refine (HP.out _ (HT.out.below HB.out)).mono ?_
    rintro e v ⟨rfl, hb⟩
    have HBn := Lib.hid (bthen HB.out hb)
    clear HB
    have HB := HBn
    clear HBn
    replace hS := HSA.out _ HB.out
    refine hK _ _ ⟨fun _ _ => hS, trivial, ?_⟩
    clear hK hb
    refine anyT_take (i := 3) (n := 3) (v := .string (X ++ { data := #[47] })) rfl (by decide) (by kernel_rfl) (by kernel_rfl) (by kernel_rfl) (fun _ _ _ h => h) (Or.inl ⟨by kernel_rfl, fun w' hw => by (go_simp <;> ((try simp only [ByteArray.size_append, hs47, hs58, hs32]); omega))⟩) hS trivial ?_
    refine anyK_all (n := 2) (rs := [6]) (by kernel_rfl) (by simp) (fun i hi => ?_)
    simp only [List.mem_cons, List.not_mem_nil, or_false] at hi
    obtain rfl := hi
    refine wpOp_step rfl (fun K' hK => ?_)
    go_simp
    refine (HQ.out _ (HT.out.below HB.out)).mono ?_
    rintro e v ⟨rfl, hb⟩
    have HBn := Lib.hid (bthen HB.out hb)
    clear HB
    have HB := HBn
    clear HBn
    replace hS := HSA.out _ HB.out
    refine hK _ _ ⟨fun _ _ => hS, trivial, ?_⟩
    clear hK hb
    refine anyT_take (i := 7) (n := 1) (v := .string (X ++ { data := #[47] } ++ Y)) rfl (by decide) (by kernel_rfl) (by kernel_rfl) (by kernel_rfl) (fun _ _ _ h => h) (Or.inl ⟨by kernel_rfl, fun w' hw => by (go_simp <;> ((try simp only [ByteArray.size_append, hs47, hs58, hs32]); omega))⟩) hS trivial ?_
    refine anyK_all (n := 0) (rs := [8]) (by kernel_rfl) (by simp) (fun i hi => ?_)
    simp only [List.mem_cons, List.not_mem_nil, or_false] at hi
    obtain rfl := hi
    refine wpOp_step rfl (fun K' hK => ?_)
    go_simp
    refine hK _ _ ⟨(fun h => absurd rfl h), trivial, ?_⟩
    clear hK
    refine ⟨by kernel_rfl, ?_⟩
    go_wp2_with fail
    go_ret
    exact ⟨by rw [HF.out]; rfl, bthen (by rw [HBB.out]; exact HBA.out) HB.out⟩

set_option maxRecDepth 20000 in
theorem l01FText_any (p q : Int) (w : World) (hp : p.natAbs ≤ 1000000000000000000) (hq : q.natAbs ≤ 1000000000000000000) :
    Calls Tryd.prog 71 #[.agg #[.int .i64 p, .int .i64 q]] w fun e w' => e = .returned (.string (frB p q)) ∧ Below w.heap.size w w' := by
  have hA := (Below.refl _ w).alloc (Nat.le_refl _) (.cells #[.int .i64 p, .int .i64 q] 49)
  have H0 := Lib.hid (And.intro (C2.new w 49 (.int .i64 p) (.int .i64 q)) hA)
  have HP := Lib.hid (fun w => l01Dec_any p w (by omega) (by omega))
  have HQ := Lib.hid (fun w => l01Dec_any q w (by omega) (by omega))
  have hx20 : (itB p).size ≤ 20 := itB_size (by omega)
  have hy20 : (itB q).size ≤ 20 := itB_size (by omega)
  obtain ⟨X, hX⟩ : ∃ X, itB p = X := ⟨_, rfl⟩
  obtain ⟨Y, hY⟩ : ∃ Y, itB q = Y := ⟨_, rfl⟩
  have HF0 := Lib.hid (show frB p q = if q = 1 then X else X ++ { data := #[47] } ++ Y by unfold frB; rw [hX, hY])
  have hs47 : ByteArray.size { data := #[47] } = 1 := rfl
  have hs58 : ByteArray.size { data := #[58] } = 1 := rfl
  have hs32 : ByteArray.size { data := #[32] } = 1 := rfl
  rw [hX] at HP hx20
  rw [hY] at HQ hy20
  clear hX hY hA
  by_cases h1 : q = 1
  · have HF := Lib.hid (show frB p q = X by rw [HF0.out, if_pos h1])
    go_enter Tryd.func71, Tryd.ntmps71
    go_wp2_with fail
    obtain ⟨wA, hwA⟩ : ∃ w', w.alloc (.cells #[.int .i64 p, .int .i64 q] 49) = w' := ⟨_, rfl⟩
    subst h1
    rw [hwA] at H0 ⊢
    clear hwA
    refine (HP.out _).mono ?_
    rintro e w1 ⟨rfl, hb⟩
    have HB := Lib.hid (bthen H0.out.2 hb)
    clear hb
    go_wp2_with fail
    go_ret
    exact ⟨by rw [HF.out]; rfl, HB.out⟩
  · have HF := Lib.hid (show frB p q = X ++ { data := #[47] } ++ Y by rw [HF0.out, if_neg h1])
    go_enter Tryd.func71, Tryd.ntmps71
    go_wp2_with fail
    obtain ⟨wA, hwA⟩ : ∃ w', w.alloc (.cells #[.int .i64 p, .int .i64 q] 49) = w' := ⟨_, rfl⟩
    rw [hwA] at H0 ⊢
    clear hwA
    obtain ⟨b, hbb⟩ : ∃ b, w.heap.size = b := ⟨_, rfl⟩
    have HC := Lib.hid (show C2 wA b (.int .i64 p) (.int .i64 q) by rw [← hbb]; exact H0.out.1)
    have HBA := Lib.hid H0.out.2
    rw [hbb]
    rw [hbb] at HBA
    have HBB := Lib.hid hbb
    clear hbb H0
    have HSA : Hid (∀ w', Below wA.heap.size wA w' → w'.cell? ⟨b, 0, none⟩ = some (.int .i64 p) ∧ w'.cell? ⟨b, 1, none⟩ = some (.int .i64 q)) := Lib.hid (fun w' hb => ⟨(HC.out.all hb).1, (HC.out.all hb).2⟩)
    have HB := Lib.hid ((Below.refl wA.heap.size wA).drew)
    have hS := HSA.out _ HB.out
    refine wp_region_any (by kernel_rfl) (any_of_K (k := 8) (S := fun w' => w'.cell? ⟨b, 0, none⟩ = some (.int .i64 p) ∧ w'.cell? ⟨b, 1, none⟩ = some (.int .i64 q)) (T := fun _ => True) _ _ _ _ ?_)
    change anyK _ _ _ _ _ _ _ _ _ _ (World.drew wA)
    obtain ⟨v, hv⟩ : ∃ w', wA.drew = w' := ⟨_, rfl⟩
    rw [hv] at HB hS ⊢
    clear hv
    refine anyT_take (i := 0) (n := 8) (v := .pointer (some ⟨b, 0, none⟩)) rfl (by decide) (by kernel_rfl) (by kernel_rfl) (by kernel_rfl) (fun _ _ _ h => h) (Or.inl ⟨by kernel_rfl, fun w' hw => by go_simp⟩) hS trivial ?_
    refine anyK_take (i := 1) (n := 7) (v := .int .i64 p) rfl rfl (by kernel_rfl) (by kernel_rfl) (by kernel_rfl) (by kernel_rfl) (by kernel_rfl) (fun _ _ _ h => h) (Or.inl ⟨by kernel_rfl, fun w' hw => by (obtain ⟨z0, z1⟩ := hw; go_simp)⟩) hS trivial ?_
    refine anyT_take (i := 4) (n := 6) (v := .pointer (some ⟨b, 1, none⟩)) rfl (by decide) (by kernel_rfl) (by kernel_rfl) (by kernel_rfl) (fun _ _ _ h => h) (Or.inl ⟨by kernel_rfl, fun w' hw => by go_simp⟩) hS trivial ?_
    refine anyK_take (i := 5) (n := 5) (v := .int .i64 q) rfl rfl (by kernel_rfl) (by kernel_rfl) (by kernel_rfl) (by kernel_rfl) (by kernel_rfl) (fun _ _ _ h => h) (Or.inl ⟨by kernel_rfl, fun w' hw => by (obtain ⟨z0, z1⟩ := hw; go_simp)⟩) hS trivial ?_
    refine anyK_all (n := 4) (rs := [2]) (by kernel_rfl) (by simp) (fun i hi => ?_)
    simp only [List.mem_cons, List.not_mem_nil, or_false] at hi
    obtain rfl := hi
    refine wpOp_step rfl (fun K' hK => ?_)
    go_simp
    refine (HP.out _).mono ?_
    rintro e v ⟨rfl, hb⟩
    have HBn := Lib.hid (bthen HB.out hb)
    clear HB
    have HB := HBn
    clear HBn
    replace hS := HSA.out _ HB.out
    refine hK _ _ ⟨fun _ _ => hS, trivial, ?_⟩
    clear hK hb
    refine anyT_take (i := 3) (n := 3) (v := .string (X ++ { data := #[47] })) rfl (by decide) (by kernel_rfl) (by kernel_rfl) (by kernel_rfl) (fun _ _ _ h => h) (Or.inl ⟨by kernel_rfl, fun w' hw => by (go_simp <;> ((try simp only [ByteArray.size_append, hs47, hs58, hs32]); omega))⟩) hS trivial ?_
    refine anyK_all (n := 2) (rs := [6]) (by kernel_rfl) (by simp) (fun i hi => ?_)
    simp only [List.mem_cons, List.not_mem_nil, or_false] at hi
    obtain rfl := hi
    refine wpOp_step rfl (fun K' hK => ?_)
    go_simp
    refine (HQ.out _).mono ?_
    rintro e v ⟨rfl, hb⟩
    have HBn := Lib.hid (bthen HB.out hb)
    clear HB
    have HB := HBn
    clear HBn
    replace hS := HSA.out _ HB.out
    refine hK _ _ ⟨fun _ _ => hS, trivial, ?_⟩
    clear hK hb
    refine anyT_take (i := 7) (n := 1) (v := .string (X ++ { data := #[47] } ++ Y)) rfl (by decide) (by kernel_rfl) (by kernel_rfl) (by kernel_rfl) (fun _ _ _ h => h) (Or.inl ⟨by kernel_rfl, fun w' hw => by (go_simp <;> ((try simp only [ByteArray.size_append, hs47, hs58, hs32]); omega))⟩) hS trivial ?_
    refine anyK_all (n := 0) (rs := [8]) (by kernel_rfl) (by simp) (fun i hi => ?_)
    simp only [List.mem_cons, List.not_mem_nil, or_false] at hi
    obtain rfl := hi
    refine wpOp_step rfl (fun K' hK => ?_)
    go_simp
    refine hK _ _ ⟨(fun h => absurd rfl h), trivial, ?_⟩
    clear hK
    refine ⟨by kernel_rfl, ?_⟩
    go_wp2_with fail
    go_ret
    exact ⟨by rw [HF.out]; rfl, bthen (by rw [HBB.out]; exact HBA.out) HB.out⟩

/-- The text of one value and its chance. -/
def pcB (vs fs : List Int) (k : Nat) : ByteArray := itB (vs.getD k 0) ++ { data := #[58] } ++ frB (frN fs k) (frD fs k)
def ltL (vs fs : List Int) (k : Nat) : List ByteArray := (List.range k).map (pcB vs fs)
theorem ltL_push (vs fs : List Int) (k : Nat) : ltL vs fs k ++ [pcB vs fs k] = ltL vs fs (k + 1) := by simp [ltL, List.range_succ]
theorem ltL_len (vs fs : List Int) (k : Nat) : (ltL vs fs k).length = k := by simp [ltL]
/-- What is small in a law. -/
theorem law_small {vs fs : List Int} {n k : Nat} (h : LawQ vs fs n) (hk : k < n) : (vs.getD k 0).natAbs ≤ 1000000000000000 ∧ (frN fs k).natAbs ≤ 1000000000000000000 ∧ (frD fs k).natAbs ≤ 1000000000000000000 := by
  have h1 := h.rng k hk
  have h2 := vF_iff.1 (h.ok k hk)
  omega
theorem pcB_size {vs fs : List Int} {n k : Nat} (h : LawQ vs fs n) (hk : k < n) : (pcB vs fs k).size ≤ 62 := by
  obtain ⟨h1, h2, h3⟩ := law_small h hk
  have h4 := itB_size (n := vs.getD k 0) (by omega)
  have h5 := frB_size (p := frN fs k) (q := frD fs k) (by omega) (by omega)
  have h6 : ByteArray.size { data := #[58] } = 1 := rfl
  unfold pcB
  rw [ByteArray.size_append, ByteArray.size_append, h6]; omega
theorem ltL_small {vs fs : List Int} {n k : Nat} (h : LawQ vs fs n) (hk : k ≤ n) : ∀ x ∈ ltL vs fs k, x.size ≤ 62 := by
  intro x hx
  simp only [ltL, List.mem_map, List.mem_range] at hx
  obtain ⟨j, hj, rfl⟩ := hx
  exact pcB_size h (by omega)
theorem jn_snoc (zs : List (List UInt8)) (x sep : List UInt8) (h : zs ≠ []) : Lib.join (zs ++ [x]) sep = Lib.join zs sep ++ (sep ++ x) := by
  cases zs with
  | nil => exact absurd rfl h
  | cons z r =>
    rw [List.cons_append, Lib.join_cons, Lib.join_cons]
    simp [Lib.joinTail]
/-- What the reference has put together behind k values. -/
def ltA (vs fs : List Int) (k : Nat) : ByteArray := if k = 0 then { data := #[] } else jnB (ltL vs fs k) { data := #[32] }
theorem ltA_first (vs fs : List Int) : ({ data := #[] } : ByteArray) ++ pcB vs fs 0 = ltA vs fs 1 := by
  unfold ltA
  rw [if_neg (by omega)]
  apply ByteArray.ext
  apply Array.toList_inj.1
  simp [jnB, ltL, Lib.join_one]
theorem ltA_next (vs fs : List Int) (k : Nat) (h : k ≠ 0) : ltA vs fs k ++ { data := #[32] } ++ pcB vs fs k = ltA vs fs (k + 1) := by
  unfold ltA
  rw [if_neg h, if_neg (by omega), ← ltL_push]
  apply ByteArray.ext
  apply Array.toList_inj.1
  have hne : (ltL vs fs k).map (·.data.toList) ≠ [] := by
    intro e
    have := congrArg List.length e
    rw [List.length_map, ltL_len] at this
    simp at this; omega
  rw [ByteArray.data_append, ByteArray.data_append, Array.toList_append, Array.toList_append]
  simp only [jnB, List.map_append, List.map_cons, List.map_nil, List.toList_toArray]
  rw [jn_snoc _ _ _ hne, List.append_assoc]
theorem ltA_size {vs fs : List Int} {n k : Nat} (h : LawQ vs fs n) (hk : k ≤ n) : (ltA vs fs k).size ≤ 5000 := by
  unfold ltA
  split
  · exact Nat.zero_le _
  · have h1 := jn_len (B := 62) ({ data := #[32] } : ByteArray).data.toList ((ltL vs fs k).map (·.data.toList)) (by
      intro x hx
      obtain ⟨y, hy, rfl⟩ := List.mem_map.1 hx
      exact ltL_small h hk y hy)
    rw [List.length_map, ltL_len] at h1
    have h2 : (jnB (ltL vs fs k) { data := #[32] }).size = (Lib.join ((ltL vs fs k).map (·.data.toList)) ({ data := #[32] } : ByteArray).data.toList).length := rfl
    rw [h2]
    have h3 : ({ data := #[32] } : ByteArray).data.toList.length = 1 := rfl
    rw [h3] at h1
    have := h.n64
    omega
def ltV (vs fs : List Int) (n m : Nat) : Value := if lawOk vs fs n m then .tuple #[.string (jnB (ltL vs fs n) { data := #[32] }), .bool true] else .tuple #[.string { data := #[] }, .bool false]
theorem ltV_form (vs fs : List Int) (n m : Nat) : ∃ s b, ltV vs fs n m = .tuple #[.string s, .bool b] := by unfold ltV; split <;> exact ⟨_, _, rfl⟩
/-- The law's box and what it holds. -/
structure LtM (w : World) (b : Nat) (a1 a2 : Option Addr) (n c1 c2 : Nat) (vs fs : List Int) : Prop where
  bx : C2 w b (.slice a1 n c1) (.slice a2 n c2)
  val : IsInts w a1 n vs
  cha : IsInts w a2 (n * 2) fs
theorem LtM.all {w w' : World} {b : Nat} {a1 a2 : Option Addr} {n c1 c2 : Nat} {vs fs : List Int} (h : LtM w b a1 a2 n c1 c2 vs fs) (hb : Below w.heap.size w w') : LtM w' b a1 a2 n c1 c2 vs fs := ⟨h.bx.all hb, h.val.below hb, h.cha.below hb⟩
set_option maxRecDepth 20000 in
set_option maxHeartbeats 3200000 in
theorem lawText_any (a1 a2 : Option Addr) (n m c1 c2 : Nat) (vs fs : List Int) (w : World) (hn : n ≤ 1048576) (hm : m ≤ 1048576) (h1 : IsInts w a1 n vs) (h2 : IsInts w a2 (m * 2) fs) (ht : TabT w) :
    Calls Tryd.prog 15 #[.agg #[.slice a1 n c1, .slice a2 m c2]] w fun e w' => e = .returned (ltV vs fs n m) ∧ Below w.heap.size w w' := by
  have hA := (Below.refl _ w).alloc (Nat.le_refl _) (.cells #[.slice a1 n c1, .slice a2 m c2] 25)
  have H0 := Lib.hid (And.intro (C2.new w 25 (.slice a1 n c1) (.slice a2 m c2)) (And.intro (h1.below hA) (And.intro (h2.below hA) hA)))
  have hl := h1.length
  have HT0 := Lib.hid ht
  have HVA := Lib.hid (fun w h1 h2 => validLaw_any a1 a2 n m c1 c2 vs fs w hn hm h1 h2)
  clear h1 h2 hA ht
  cases hv : lawOk vs fs n m with
  | false =>
    have HV := Lib.hid (And.intro hv (show ltV vs fs n m = .tuple #[.string { data := #[] }, .bool false] by unfold ltV; rw [hv]; rfl))
    clear hv
    go_enter Tryd.func15, Tryd.ntmps15
    go_wp2_with fail
    refine (HVA.out _ H0.out.2.1 H0.out.2.2.1).mono ?_
    rintro e w1 ⟨rfl, hb⟩
    rw [HV.out.1]
    have HB := Lib.hid (bthen H0.out.2.2.2 hb)
    clear hb
    go_wp2_with fail
    go_ret2
    exact ⟨by rw [HV.out.2]; rfl, HB.out⟩
  | true =>
    have HV := Lib.hid (And.intro hv (show ltV vs fs n m = .tuple #[.string (jnB (ltL vs fs n) { data := #[32] }), .bool true] by unfold ltV; rw [hv]; rfl))
    obtain ⟨hmn, hQ⟩ := lawQ_of hl hv
    obtain rfl : n = m := hmn.symm
    have n64 := hQ.n64
    have n1 := hQ.n1
    have HQ := Lib.hid hQ
    clear hv hQ
    go_enter Tryd.func15, Tryd.ntmps15
    go_wp2_with fail
    refine (HVA.out _ H0.out.2.1 H0.out.2.2.1).mono ?_
    rintro e w1 ⟨rfl, hb⟩
    rw [HV.out.1]
    have HL := Lib.hid ((show LtM _ _ a1 a2 _ c1 c2 vs fs from ⟨H0.out.1, H0.out.2.1, H0.out.2.2.1⟩).all hb)
    have HBW := Lib.hid (bthen H0.out.2.2.2 hb)
    have HT := Lib.hid (HT0.out.below HBW.out)
    clear hb H0 HT0
    obtain ⟨b, hbb⟩ : ∃ b, w.heap.size = b := ⟨_, rfl⟩
    rw [hbb] at HL ⊢
    have HBB := Lib.hid hbb
    obtain ⟨x0, x1, x2, x3, x4⟩ := HL.out.bx
    have HG0 := Lib.hid (show StrA w1 (w1.alloc (.cells #[] 9)) (.slice (some ⟨w1.heap.size, 0, none⟩) 0 0) (ltL vs fs 0) from StrA.start w1)
    obtain ⟨y0, y1, y2, y3, y4⟩ := HL.out.bx.all HG0.out.2
    have hs47 : ByteArray.size { data := #[47] } = 1 := rfl
    have hs58 : ByteArray.size { data := #[58] } = 1 := rfl
    have hs32 : ByteArray.size { data := #[32] } = 1 := rfl
    clear hbb
    go_wp2_with fail
    go_loopw [14, 4] (fun i v wr => ∃ (k : Nat) (s : Option Addr) (c : Nat), k ≤ n ∧ i = .int .i64 (k : Nat) ∧ v = .slice s k c ∧ Hid (StrA w1 wr (.slice s k c) (ltL vs fs k))) (fun i _ _ => n - (intOf i).toNat)
    case atStart => exact ⟨0, _, _, Nat.zero_le _, rfl, rfl, HG0⟩
    case round =>
      clear HG0 x0 x1 x2 x3 x4 y0 y1 y2 y3 y4
      obtain ⟨k, s, c, hk, rfl, rfl, HG⟩ := hrel
      have HLN := Lib.hid (ltL_len vs fs k)
      by_cases hlt : k < n
      · have hki : (k : Int) < (n : Int) := by omega
        have hk0 : (0 : Int) ≤ (k : Int) := by omega
        obtain ⟨g, off, rfl, hxc⟩ := HL.out.val.at hlt
        have cc := (HG.out.2.cell (p := ⟨g, off + k, none⟩) (World.block_lt_of_cell? w1 _ hxc)).trans hxc
        obtain ⟨g2, off2, rfl, e1, e2⟩ := fr_at HL.out.cha hlt
        have HE := Lib.hid (And.intro e1 e2)
        have hsm := law_small HQ.out hlt
        have HPC0 := Lib.hid (ltL_push vs fs k)
        have hpc : pcB vs fs k = itB (vs.getD k 0) ++ { data := #[58] } ++ frB (frN fs k) (frD fs k) := rfl
        obtain ⟨x, hx⟩ : ∃ x, vs.getD k 0 = x := ⟨_, rfl⟩
        obtain ⟨p, hp⟩ : ∃ x, frN fs k = x := ⟨_, rfl⟩
        obtain ⟨q, hq⟩ : ∃ x, frD fs k = x := ⟨_, rfl⟩
        rw [hx] at cc hsm hpc
        rw [hp] at hsm hpc HE
        rw [hq] at hsm hpc HE
        have HX := Lib.hid (fun w ht => decimal_any x w (by omega) (by omega) ht)
        have HF := Lib.hid (fun w ht => fractionText_any p q w hsm.2.1 hsm.2.2 ht)
        have hx20 : (itB x).size ≤ 20 := itB_size (by omega)
        have hf41 : (frB p q).size ≤ 41 := frB_size (by omega) (by omega)
        obtain ⟨X, hX⟩ : ∃ X, itB x = X := ⟨_, rfl⟩
        obtain ⟨F, hF⟩ : ∃ X, frB p q = X := ⟨_, rfl⟩
        rw [hX] at HX hx20 hpc
        rw [hF] at HF hf41 hpc
        have HPC := HPC0
        rw [hpc] at HPC
        clear hx hp hq hX hF hpc HPC0 e1 e2 hxc
        go_wp2_with fail
        have HSA : Hid (∀ w', Below w1.heap.size w1 w' → w'.cell? ⟨b, 1, none⟩ = some (.slice (some ⟨g2, off2, none⟩) n c2) ∧ w'.cell? ⟨g2, off2 + k * 2, none⟩ = some (.int .i64 p) ∧ w'.cell? ⟨g2, off2 + k * 2 + 1, none⟩ = some (.int .i64 q)) := Lib.hid (fun w' hb => ⟨(HL.out.bx.all hb).c1, (hb.cell (p := ⟨g2, off2 + k * 2, none⟩) (World.block_lt_of_cell? w1 _ HE.out.1)).trans HE.out.1, (hb.cell (p := ⟨g2, off2 + k * 2 + 1, none⟩) (World.block_lt_of_cell? w1 _ HE.out.2)).trans HE.out.2⟩)
        replace HG := Lib.hid (show StrA w1 wr.drew (.slice s k c) (ltL vs fs k) from HG.out.drew)
        have hS := HSA.out _ HG.out.2
        refine wp_region_any (by kernel_rfl) (any_of_K (k := 13) (S := fun w' => w'.cell? ⟨b, 1, none⟩ = some (.slice (some ⟨g2, off2, none⟩) n c2) ∧ w'.cell? ⟨g2, off2 + k * 2, none⟩ = some (.int .i64 p) ∧ w'.cell? ⟨g2, off2 + k * 2 + 1, none⟩ = some (.int .i64 q)) (T := fun _ => True) _ _ _ _ ?_)
        change anyK _ _ _ _ _ _ _ _ _ _ (World.drew wr)
        obtain ⟨v, hv⟩ : ∃ w', wr.drew = w' := ⟨_, rfl⟩
        rw [hv] at HG hS ⊢
        clear hv
        refine anyT_take (i := 0) (n := 13) (v := .slice s k c) rfl (by decide) (by kernel_rfl) (by kernel_rfl) (by kernel_rfl) (fun _ _ _ h => h) (Or.inl ⟨by kernel_rfl, fun w' hw => by go_simp⟩) hS trivial ?_
        refine anyT_take (i := 1) (n := 12) (v := .int .i64 x) rfl (by decide) (by kernel_rfl) (by kernel_rfl) (by kernel_rfl) (fun _ _ _ h => h) (Or.inl ⟨by kernel_rfl, fun w' hw => by go_simp⟩) hS trivial ?_
        refine anyT_take (i := 4) (n := 11) (v := .pointer (some ⟨b, 1, none⟩)) rfl (by decide) (by kernel_rfl) (by kernel_rfl) (by kernel_rfl) (fun _ _ _ h => h) (Or.inl ⟨by kernel_rfl, fun w' hw => by go_simp⟩) hS trivial ?_
        refine anyK_take (i := 5) (n := 10) (v := .slice (some ⟨g2, off2, none⟩) n c2) rfl rfl (by kernel_rfl) (by kernel_rfl) (by kernel_rfl) (by kernel_rfl) (by kernel_rfl) (fun _ _ _ h => h) (Or.inl ⟨by kernel_rfl, fun w' hw => by (obtain ⟨z0, z1, z2⟩ := hw; go_simp)⟩) hS trivial ?_
        refine anyT_take (i := 6) (n := 9) (v := .int .i64 (k : Nat)) rfl (by decide) (by kernel_rfl) (by kernel_rfl) (by kernel_rfl) (fun _ _ _ h => h) (Or.inl ⟨by kernel_rfl, fun w' hw => by go_simp⟩) hS trivial ?_
        refine anyT_take (i := 7) (n := 8) (v := .pointer (some ⟨g2, off2 + k * 2, none⟩)) rfl (by decide) (by kernel_rfl) (by kernel_rfl) (by kernel_rfl) (fun _ _ _ h => h) (Or.inl ⟨by kernel_rfl, fun w' hw => by go_simp⟩) hS trivial ?_
        refine anyK_take (i := 8) (n := 7) (v := .agg #[.int .i64 p, .int .i64 q]) rfl rfl (by kernel_rfl) (by kernel_rfl) (by kernel_rfl) (by kernel_rfl) (by kernel_rfl) (fun _ _ _ h => h) (Or.inl ⟨by kernel_rfl, fun w' hw => by (obtain ⟨z0, z1, z2⟩ := hw; go_simp)⟩) hS trivial ?_
        refine anyK_all (n := 6) (rs := [2]) (by kernel_rfl) (by simp) (fun i hi => ?_)
        simp only [List.mem_cons, List.not_mem_nil, or_false] at hi
        obtain rfl := hi
        refine wpOp_step rfl (fun K' hK => ?_)
        go_simp
        refine (HX.out _ (HT.out.below HG.out.2)).mono ?_
        rintro e v ⟨rfl, hb⟩
        have HGn := Lib.hid (show StrA w1 v (.slice s k c) (ltL vs fs k) from HG.out.ret hb)
        clear HG
        have HG := HGn
        clear HGn
        replace hS := HSA.out _ HG.out.2
        refine hK _ _ ⟨fun _ _ => hS, trivial, ?_⟩
        clear hK hb
        refine anyT_take (i := 3) (n := 5) (v := .string (X ++ { data := #[58] })) rfl (by decide) (by kernel_rfl) (by kernel_rfl) (by kernel_rfl) (fun _ _ _ h => h) (Or.inl ⟨by kernel_rfl, fun w' hw => by (go_simp <;> ((try simp only [ByteArray.size_append, hs47, hs58, hs32]); omega))⟩) hS trivial ?_
        refine anyK_all (n := 4) (rs := [9]) (by kernel_rfl) (by simp) (fun i hi => ?_)
        simp only [List.mem_cons, List.not_mem_nil, or_false] at hi
        obtain rfl := hi
        refine wpOp_step rfl (fun K' hK => ?_)
        go_simp
        refine (HF.out _ (HT.out.below HG.out.2)).mono ?_
        rintro e v ⟨rfl, hb⟩
        have HGn := Lib.hid (show StrA w1 v (.slice s k c) (ltL vs fs k) from HG.out.ret hb)
        clear HG
        have HG := HGn
        clear HGn
        replace hS := HSA.out _ HG.out.2
        refine hK _ _ ⟨fun _ _ => hS, trivial, ?_⟩
        clear hK hb
        refine anyT_take (i := 10) (n := 3) (v := .string (X ++ { data := #[58] } ++ F)) rfl (by decide) (by kernel_rfl) (by kernel_rfl) (by kernel_rfl) (fun _ _ _ h => h) (Or.inl ⟨by kernel_rfl, fun w' hw => by (go_simp <;> ((try simp only [ByteArray.size_append, hs47, hs58, hs32]); omega))⟩) hS trivial ?_
        obtain ⟨Y, hY⟩ : ∃ Y, X ++ { data := #[58] } ++ F = Y := ⟨_, rfl⟩
        rw [hY]
        rw [hY] at HPC
        clear hY
        refine anyK_all (n := 2) (rs := [11]) (by kernel_rfl) (by simp) (fun i hi => ?_)
        simp only [List.mem_cons, List.not_mem_nil, or_false] at hi
        obtain rfl := hi
        refine wpOp_step rfl (fun K' hK => ?_)
        go_simp
        have HGa := Lib.hid (show StrA w1 (v.alloc (.cells #[.string Y] 9)) (.slice s k c) (ltL vs fs k) from HG.out.alloc _)
        replace hS := HSA.out _ HGa.out.2
        refine hK _ _ ⟨fun _ _ => hS, trivial, ?_⟩
        clear hK
        have hcell : (v.alloc (.cells #[.string Y] 9)).cell? ⟨v.heap.size, 0, none⟩ = some (.string Y) := by go_simp
        have hszb := HGa.out.2.size
        have how := HGa.out.1
        rw [HLN.out] at how
        have HOW := Lib.hid how
        clear how
        obtain ⟨b11, hb11⟩ : ∃ b, v.heap.size = b := ⟨_, rfl⟩
        obtain ⟨vA, hvA⟩ : ∃ w', v.alloc (.cells #[.string Y] 9) = w' := ⟨_, rfl⟩
        rw [hvA] at hS HOW hszb
        rw [hvA, hb11] at hcell
        rw [hvA]
        try rw [hb11]
        have HVA := Lib.hid hvA
        clear hvA hb11
        refine anyK_all (n := 1) (rs := [12]) (by kernel_rfl) (by simp) (fun i hi => ?_)
        simp only [List.mem_cons, List.not_mem_nil, or_false] at hi
        obtain rfl := hi
        refine wpOp_step rfl (fun K' hK => ?_)
        refine step_ap1 rfl (.tmp 19) (.tmp 30) 65 rfl w1.heap.size 9 (.string ⟨#[]⟩) 16 Tryd.underlying65 Tryd.infoStrC rfl (.slice s k c) k _ rfl HOW.out b11 (.string Y) rfl hcell rfl (by omega) (by omega) hszb ?_
        intro v' w6 hown hgrow _
        obtain ⟨a6, c6, rfl⟩ := own_form hown
        have HG3 := Lib.hid (show StrA w1 w6 (.slice a6 (k + 1) c6) (ltL vs fs (k + 1)) by
          rw [← HPC.out]
          exact HG.out.push (by rw [HLN.out]; exact hown) (by rw [HVA.out]; exact hgrow))
        replace hS := HSA.out _ HG3.out.2
        refine hK _ _ ⟨fun _ _ => hS, trivial, ?_⟩
        clear hK hown hgrow HOW HGa HG HVA hcell
        refine anyK_all (n := 0) (rs := [13]) (by kernel_rfl) (by simp) (fun i hi => ?_)
        simp only [List.mem_cons, List.not_mem_nil, or_false] at hi
        obtain rfl := hi
        refine wpOp_step rfl (fun K' hK => ?_)
        go_simp
        refine hK _ _ ⟨(fun h => absurd rfl h), trivial, ?_⟩
        clear hK
        refine ⟨by kernel_rfl, ?_⟩
        go_wp2_with fail
        go_roundw
        case rel => exact ⟨k + 1, a6, c6, by omega, by go_num, rfl, HG3⟩
        case measure => simp [intOf] <;> omega
      · obtain rfl : k = n := by omega
        have hki : ¬ (k : Int) < (k : Int) := by omega
        have HJ := Lib.hid (joinA_any w1 wr _ (ltL vs fs k) { data := #[32] } HG.out (by rw [ltL_len]; omega) (by rw [ltL_len]; omega) (fun x hx => Nat.le_trans (ltL_small HQ.out (Nat.le_refl _) x hx) (by omega)) (by decide))
        go_wp2_with fail
        refine HJ.out.mono ?_
        rintro e w2 ⟨rfl, hb⟩
        have HB := Lib.hid (bthen HBW.out (bthen HG.out.2 hb))
        clear hb
        go_wp2_with fail
        go_ret2
        exact ⟨by rw [HV.out.2]; rfl, HB.out⟩
set_option maxRecDepth 20000 in
set_option maxHeartbeats 3200000 in
theorem l05Text_any (b : Nat) (a1 a2 : Option Addr) (n c1 c2 : Nat) (vs fs : List Int) (w : World) (hQ : LawQ vs fs n) (h0 : LtM w b a1 a2 n c1 c2 vs fs) :
    Calls Tryd.prog 41 #[.pointer (some ⟨b, 0, none⟩)] w fun e w' => e = .returned (.string (jnB (ltL vs fs n) { data := #[32] })) ∧ Below w.heap.size w w' := by
  have HL := Lib.hid h0
  have HQ := Lib.hid hQ
  have n64 := hQ.n64
  have n1 := hQ.n1
  have hs47 : ByteArray.size { data := #[47] } = 1 := rfl
  have hs58 : ByteArray.size { data := #[58] } = 1 := rfl
  have hs32 : ByteArray.size { data := #[32] } = 1 := rfl
  clear h0 hQ
  go_enter Tryd.func41, Tryd.ntmps41
  go_wp2_with fail
  go_loopw [4, 3] (fun i v wr => ∃ (k : Nat), k ≤ n ∧ i = .int .i64 (k : Nat) ∧ v = .string (ltA vs fs k) ∧ Hid (Below w.heap.size w wr)) (fun i _ _ => n - (intOf i).toNat)
  case atStart => exact ⟨0, Nat.zero_le _, rfl, rfl, Lib.hid (Below.refl _ _)⟩
  case round =>
    obtain ⟨k, hk, rfl, rfl, HB⟩ := hrel
    obtain ⟨y0, y1, y2, y3, y4⟩ := HL.out.bx.all HB.out
    by_cases hlt : k < n
    · have hki : (k : Int) < (n : Int) := by omega
      have hk0 : (0 : Int) ≤ (k : Int) := by omega
      obtain ⟨g, off, rfl, hxc⟩ := HL.out.val.at hlt
      obtain ⟨g2, off2, rfl, e1, e2⟩ := fr_at HL.out.cha hlt
      have HE := Lib.hid (And.intro e1 e2)
      have HX1 := Lib.hid hxc
      have hsm := law_small HQ.out hlt
      have hsz := ltA_size HQ.out hk
      have hpc : pcB vs fs k = itB (vs.getD k 0) ++ { data := #[58] } ++ frB (frN fs k) (frD fs k) := rfl
      have hnxt := ltA_next vs fs k
      obtain ⟨x, hx⟩ : ∃ x, vs.getD k 0 = x := ⟨_, rfl⟩
      obtain ⟨p, hp⟩ : ∃ x, frN fs k = x := ⟨_, rfl⟩
      obtain ⟨q, hq⟩ : ∃ x, frD fs k = x := ⟨_, rfl⟩
      rw [hx] at hsm hpc HX1
      rw [hp] at hsm hpc HE
      rw [hq] at hsm hpc HE
      have HX := Lib.hid (fun w => l01Dec_any x w (by omega) (by omega))
      have HF := Lib.hid (fun w => l01FText_any p q w hsm.2.1 hsm.2.2)
      have hx20 : (itB x).size ≤ 20 := itB_size (by omega)
      have hf41 : (frB p q).size ≤ 41 := frB_size (by omega) (by omega)
      obtain ⟨X, hX⟩ : ∃ X, itB x = X := ⟨_, rfl⟩
      obtain ⟨F, hF⟩ : ∃ X, frB p q = X := ⟨_, rfl⟩
      rw [hX] at HX hx20 hpc
      rw [hF] at HF hf41 hpc
      clear hx hp hq hX hF e1 e2 hxc
      by_cases h0 : k = 0
      · have hfst : ({ data := #[] } : ByteArray) ++ pcB vs fs k = ltA vs fs (k + 1) := by rw [h0]; exact ltA_first vs fs
        rw [hpc] at hfst
        have he : ltA vs fs k = { data := #[] } := by rw [h0]; rfl
        have hkz : ¬ (0 : Int) < (k : Int) := by omega
        rw [he]
        obtain ⟨O, hO⟩ : ∃ O : ByteArray, O = { data := #[] } := ⟨_, rfl⟩
        have hosz : O.size ≤ 5001 := by rw [hO]; exact Nat.zero_le _
        rw [← hO] at hfst ⊢
        have HPC := Lib.hid hfst
        clear hnxt hfst hpc he hO hsz h0
        go_wp2_with fail
        have HSA : Hid (∀ w', Below w.heap.size w w' → w'.cell? ⟨b, 0, none⟩ = some (.slice (some ⟨g, off, none⟩) n c1) ∧ w'.cell? ⟨b, 1, none⟩ = some (.slice (some ⟨g2, off2, none⟩) n c2) ∧ w'.cell? ⟨g, off + k, none⟩ = some (.int .i64 x) ∧ w'.cell? ⟨g2, off2 + k * 2, none⟩ = some (.int .i64 p) ∧ w'.cell? ⟨g2, off2 + k * 2 + 1, none⟩ = some (.int .i64 q)) := Lib.hid (fun w' hb => ⟨(HL.out.bx.all hb).c0, (HL.out.bx.all hb).c1, (hb.cell (p := ⟨g, off + k, none⟩) (World.block_lt_of_cell? w _ HX1.out)).trans HX1.out, (hb.cell (p := ⟨g2, off2 + k * 2, none⟩) (World.block_lt_of_cell? w _ HE.out.1)).trans HE.out.1, (hb.cell (p := ⟨g2, off2 + k * 2 + 1, none⟩) (World.block_lt_of_cell? w _ HE.out.2)).trans HE.out.2⟩)
        replace HB := Lib.hid HB.out.drew
        have hS := HSA.out _ HB.out
        refine wp_region_any (by kernel_rfl) (any_of_K (k := 20) (S := fun w' => w'.cell? ⟨b, 0, none⟩ = some (.slice (some ⟨g, off, none⟩) n c1) ∧ w'.cell? ⟨b, 1, none⟩ = some (.slice (some ⟨g2, off2, none⟩) n c2) ∧ w'.cell? ⟨g, off + k, none⟩ = some (.int .i64 x) ∧ w'.cell? ⟨g2, off2 + k * 2, none⟩ = some (.int .i64 p) ∧ w'.cell? ⟨g2, off2 + k * 2 + 1, none⟩ = some (.int .i64 q)) (T := fun _ => True) _ _ _ _ ?_)
        change anyK _ _ _ _ _ _ _ _ _ _ (World.drew wr)
        obtain ⟨v, hv⟩ : ∃ w', wr.drew = w' := ⟨_, rfl⟩
        rw [hv] at HB hS ⊢
        clear hv
        refine anyT_take (i := 0) (n := 20) (v := .string O) rfl (by decide) (by kernel_rfl) (by kernel_rfl) (by kernel_rfl) (fun _ _ _ h => h) (Or.inl ⟨by kernel_rfl, fun w' hw => by go_simp⟩) hS trivial ?_
        refine anyT_take (i := 1) (n := 19) (v := .pointer (some ⟨b, 0, none⟩)) rfl (by decide) (by kernel_rfl) (by kernel_rfl) (by kernel_rfl) (fun _ _ _ h => h) (Or.inl ⟨by kernel_rfl, fun w' hw => by go_simp⟩) hS trivial ?_
        refine anyT_take (i := 2) (n := 18) (v := .pointer (some ⟨b, 0, none⟩)) rfl (by decide) (by kernel_rfl) (by kernel_rfl) (by kernel_rfl) (fun _ _ _ h => h) (Or.inl ⟨by kernel_rfl, fun w' hw => by go_simp⟩) hS trivial ?_
        refine anyT_take (i := 3) (n := 17) (v := .pointer (some ⟨b, 0, none⟩)) rfl (by decide) (by kernel_rfl) (by kernel_rfl) (by kernel_rfl) (fun _ _ _ h => h) (Or.inl ⟨by kernel_rfl, fun w' hw => by go_simp⟩) hS trivial ?_
        refine anyK_take (i := 4) (n := 16) (v := .slice (some ⟨g, off, none⟩) n c1) rfl rfl (by kernel_rfl) (by kernel_rfl) (by kernel_rfl) (by kernel_rfl) (by kernel_rfl) (fun _ _ _ h => h) (Or.inl ⟨by kernel_rfl, fun w' hw => by (obtain ⟨z0, z1, z2, z3, z4⟩ := hw; go_simp)⟩) hS trivial ?_
        refine anyT_take (i := 5) (n := 15) (v := .int .i64 (k : Nat)) rfl (by decide) (by kernel_rfl) (by kernel_rfl) (by kernel_rfl) (fun _ _ _ h => h) (Or.inl ⟨by kernel_rfl, fun w' hw => by go_simp⟩) hS trivial ?_
        refine anyT_take (i := 6) (n := 14) (v := .pointer (some ⟨g, off + k, none⟩)) rfl (by decide) (by kernel_rfl) (by kernel_rfl) (by kernel_rfl) (fun _ _ _ h => h) (Or.inl ⟨by kernel_rfl, fun w' hw => by go_simp⟩) hS trivial ?_
        refine anyK_take (i := 7) (n := 13) (v := .int .i64 x) rfl rfl (by kernel_rfl) (by kernel_rfl) (by kernel_rfl) (by kernel_rfl) (by kernel_rfl) (fun _ _ _ h => h) (Or.inl ⟨by kernel_rfl, fun w' hw => by (obtain ⟨z0, z1, z2, z3, z4⟩ := hw; go_simp)⟩) hS trivial ?_
        refine anyT_take (i := 10) (n := 12) (v := .pointer (some ⟨b, 0, none⟩)) rfl (by decide) (by kernel_rfl) (by kernel_rfl) (by kernel_rfl) (fun _ _ _ h => h) (Or.inl ⟨by kernel_rfl, fun w' hw => by go_simp⟩) hS trivial ?_
        refine anyT_take (i := 11) (n := 11) (v := .pointer (some ⟨b, 0, none⟩)) rfl (by decide) (by kernel_rfl) (by kernel_rfl) (by kernel_rfl) (fun _ _ _ h => h) (Or.inl ⟨by kernel_rfl, fun w' hw => by go_simp⟩) hS trivial ?_
        refine anyT_take (i := 12) (n := 10) (v := .pointer (some ⟨b, 1, none⟩)) rfl (by decide) (by kernel_rfl) (by kernel_rfl) (by kernel_rfl) (fun _ _ _ h => h) (Or.inl ⟨by kernel_rfl, fun w' hw => by go_simp⟩) hS trivial ?_
        refine anyK_take (i := 13) (n := 9) (v := .slice (some ⟨g2, off2, none⟩) n c2) rfl rfl (by kernel_rfl) (by kernel_rfl) (by kernel_rfl) (by kernel_rfl) (by kernel_rfl) (fun _ _ _ h => h) (Or.inl ⟨by kernel_rfl, fun w' hw => by (obtain ⟨z0, z1, z2, z3, z4⟩ := hw; go_simp)⟩) hS trivial ?_
        refine anyT_take (i := 14) (n := 8) (v := .int .i64 (k : Nat)) rfl (by decide) (by kernel_rfl) (by kernel_rfl) (by kernel_rfl) (fun _ _ _ h => h) (Or.inl ⟨by kernel_rfl, fun w' hw => by go_simp⟩) hS trivial ?_
        refine anyT_take (i := 15) (n := 7) (v := .pointer (some ⟨g2, off2 + k * 2, none⟩)) rfl (by decide) (by kernel_rfl) (by kernel_rfl) (by kernel_rfl) (fun _ _ _ h => h) (Or.inl ⟨by kernel_rfl, fun w' hw => by go_simp⟩) hS trivial ?_
        refine anyK_take (i := 16) (n := 6) (v := .agg #[.int .i64 p, .int .i64 q]) rfl rfl (by kernel_rfl) (by kernel_rfl) (by kernel_rfl) (by kernel_rfl) (by kernel_rfl) (fun _ _ _ h => h) (Or.inl ⟨by kernel_rfl, fun w' hw => by (obtain ⟨z0, z1, z2, z3, z4⟩ := hw; go_simp)⟩) hS trivial ?_
        refine anyK_all (n := 5) (rs := [8]) (by kernel_rfl) (by simp) (fun i hi => ?_)
        simp only [List.mem_cons, List.not_mem_nil, or_false] at hi
        obtain rfl := hi
        refine wpOp_step rfl (fun K' hK => ?_)
        go_simp
        refine (HX.out _).mono ?_
        rintro e v ⟨rfl, hb⟩
        have HBn := Lib.hid (bthen HB.out hb)
        clear HB
        have HB := HBn
        clear HBn
        replace hS := HSA.out _ HB.out
        refine hK _ _ ⟨fun _ _ => hS, trivial, ?_⟩
        clear hK hb
        refine anyT_take (i := 9) (n := 4) (v := .string (X ++ { data := #[58] })) rfl (by decide) (by kernel_rfl) (by kernel_rfl) (by kernel_rfl) (fun _ _ _ h => h) (Or.inl ⟨by kernel_rfl, fun w' hw => by (go_simp <;> ((try simp only [ByteArray.size_append, hs47, hs58, hs32]); omega))⟩) hS trivial ?_
        refine anyK_all (n := 3) (rs := [17]) (by kernel_rfl) (by simp) (fun i hi => ?_)
        simp only [List.mem_cons, List.not_mem_nil, or_false] at hi
        obtain rfl := hi
        refine wpOp_step rfl (fun K' hK => ?_)
        go_simp
        refine (HF.out _).mono ?_
        rintro e v ⟨rfl, hb⟩
        have HBn := Lib.hid (bthen HB.out hb)
        clear HB
        have HB := HBn
        clear HBn
        replace hS := HSA.out _ HB.out
        refine hK _ _ ⟨fun _ _ => hS, trivial, ?_⟩
        clear hK hb
        refine anyT_take (i := 18) (n := 2) (v := .string (X ++ { data := #[58] } ++ F)) rfl (by decide) (by kernel_rfl) (by kernel_rfl) (by kernel_rfl) (fun _ _ _ h => h) (Or.inl ⟨by kernel_rfl, fun w' hw => by (go_simp <;> ((try simp only [ByteArray.size_append, hs47, hs58, hs32]); omega))⟩) hS trivial ?_
        refine anyT_take (i := 19) (n := 1) (v := .string (O ++ (X ++ { data := #[58] } ++ F))) rfl (by decide) (by kernel_rfl) (by kernel_rfl) (by kernel_rfl) (fun _ _ _ h => h) (Or.inl ⟨by kernel_rfl, fun w' hw => by (go_simp <;> ((try simp only [ByteArray.size_append, hs47, hs58, hs32]); omega))⟩) hS trivial ?_
        refine anyK_all (n := 0) (rs := [20]) (by kernel_rfl) (by simp) (fun i hi => ?_)
        simp only [List.mem_cons, List.not_mem_nil, or_false] at hi
        obtain rfl := hi
        refine wpOp_step rfl (fun K' hK => ?_)
        go_simp
        refine hK _ _ ⟨(fun h => absurd rfl h), trivial, ?_⟩
        clear hK
        refine ⟨by kernel_rfl, ?_⟩
        go_wp2_with fail
        go_roundw
        case rel => exact ⟨k + 1, by omega, by go_num, by rw [HPC.out], Lib.hid HB.out⟩
        case measure => simp [intOf] <;> omega
      · have hkp : (0 : Int) < (k : Int) := by omega
        replace hnxt := hnxt h0
        rw [hpc] at hnxt
        obtain ⟨O1, hO1⟩ : ∃ O, ltA vs fs k = O := ⟨_, rfl⟩
        rw [hO1] at hsz hnxt ⊢
        have hO1s : O1.size ≤ 9223372036854775806 := by omega
        obtain ⟨O, hO⟩ : ∃ O, O1 ++ { data := #[32] } = O := ⟨_, rfl⟩
        have hosz : O.size ≤ 5001 := by rw [← hO, ByteArray.size_append, hs32]; omega
        rw [hO] at hnxt
        have HPC := Lib.hid hnxt
        have HOO := Lib.hid hO
        clear hnxt hpc hO1 h0 hO
        go_wp2_with fail
        rw [HOO.out]
        have HSA : Hid (∀ w', Below w.heap.size w w' → w'.cell? ⟨b, 0, none⟩ = some (.slice (some ⟨g, off, none⟩) n c1) ∧ w'.cell? ⟨b, 1, none⟩ = some (.slice (some ⟨g2, off2, none⟩) n c2) ∧ w'.cell? ⟨g, off + k, none⟩ = some (.int .i64 x) ∧ w'.cell? ⟨g2, off2 + k * 2, none⟩ = some (.int .i64 p) ∧ w'.cell? ⟨g2, off2 + k * 2 + 1, none⟩ = some (.int .i64 q)) := Lib.hid (fun w' hb => ⟨(HL.out.bx.all hb).c0, (HL.out.bx.all hb).c1, (hb.cell (p := ⟨g, off + k, none⟩) (World.block_lt_of_cell? w _ HX1.out)).trans HX1.out, (hb.cell (p := ⟨g2, off2 + k * 2, none⟩) (World.block_lt_of_cell? w _ HE.out.1)).trans HE.out.1, (hb.cell (p := ⟨g2, off2 + k * 2 + 1, none⟩) (World.block_lt_of_cell? w _ HE.out.2)).trans HE.out.2⟩)
        replace HB := Lib.hid HB.out.drew
        have hS := HSA.out _ HB.out
        refine wp_region_any (by kernel_rfl) (any_of_K (k := 20) (S := fun w' => w'.cell? ⟨b, 0, none⟩ = some (.slice (some ⟨g, off, none⟩) n c1) ∧ w'.cell? ⟨b, 1, none⟩ = some (.slice (some ⟨g2, off2, none⟩) n c2) ∧ w'.cell? ⟨g, off + k, none⟩ = some (.int .i64 x) ∧ w'.cell? ⟨g2, off2 + k * 2, none⟩ = some (.int .i64 p) ∧ w'.cell? ⟨g2, off2 + k * 2 + 1, none⟩ = some (.int .i64 q)) (T := fun _ => True) _ _ _ _ ?_)
        change anyK _ _ _ _ _ _ _ _ _ _ (World.drew wr)
        obtain ⟨v, hv⟩ : ∃ w', wr.drew = w' := ⟨_, rfl⟩
        rw [hv] at HB hS ⊢
        clear hv
        refine anyT_take (i := 0) (n := 20) (v := .string O) rfl (by decide) (by kernel_rfl) (by kernel_rfl) (by kernel_rfl) (fun _ _ _ h => h) (Or.inl ⟨by kernel_rfl, fun w' hw => by go_simp⟩) hS trivial ?_
        refine anyT_take (i := 1) (n := 19) (v := .pointer (some ⟨b, 0, none⟩)) rfl (by decide) (by kernel_rfl) (by kernel_rfl) (by kernel_rfl) (fun _ _ _ h => h) (Or.inl ⟨by kernel_rfl, fun w' hw => by go_simp⟩) hS trivial ?_
        refine anyT_take (i := 2) (n := 18) (v := .pointer (some ⟨b, 0, none⟩)) rfl (by decide) (by kernel_rfl) (by kernel_rfl) (by kernel_rfl) (fun _ _ _ h => h) (Or.inl ⟨by kernel_rfl, fun w' hw => by go_simp⟩) hS trivial ?_
        refine anyT_take (i := 3) (n := 17) (v := .pointer (some ⟨b, 0, none⟩)) rfl (by decide) (by kernel_rfl) (by kernel_rfl) (by kernel_rfl) (fun _ _ _ h => h) (Or.inl ⟨by kernel_rfl, fun w' hw => by go_simp⟩) hS trivial ?_
        refine anyK_take (i := 4) (n := 16) (v := .slice (some ⟨g, off, none⟩) n c1) rfl rfl (by kernel_rfl) (by kernel_rfl) (by kernel_rfl) (by kernel_rfl) (by kernel_rfl) (fun _ _ _ h => h) (Or.inl ⟨by kernel_rfl, fun w' hw => by (obtain ⟨z0, z1, z2, z3, z4⟩ := hw; go_simp)⟩) hS trivial ?_
        refine anyT_take (i := 5) (n := 15) (v := .int .i64 (k : Nat)) rfl (by decide) (by kernel_rfl) (by kernel_rfl) (by kernel_rfl) (fun _ _ _ h => h) (Or.inl ⟨by kernel_rfl, fun w' hw => by go_simp⟩) hS trivial ?_
        refine anyT_take (i := 6) (n := 14) (v := .pointer (some ⟨g, off + k, none⟩)) rfl (by decide) (by kernel_rfl) (by kernel_rfl) (by kernel_rfl) (fun _ _ _ h => h) (Or.inl ⟨by kernel_rfl, fun w' hw => by go_simp⟩) hS trivial ?_
        refine anyK_take (i := 7) (n := 13) (v := .int .i64 x) rfl rfl (by kernel_rfl) (by kernel_rfl) (by kernel_rfl) (by kernel_rfl) (by kernel_rfl) (fun _ _ _ h => h) (Or.inl ⟨by kernel_rfl, fun w' hw => by (obtain ⟨z0, z1, z2, z3, z4⟩ := hw; go_simp)⟩) hS trivial ?_
        refine anyT_take (i := 10) (n := 12) (v := .pointer (some ⟨b, 0, none⟩)) rfl (by decide) (by kernel_rfl) (by kernel_rfl) (by kernel_rfl) (fun _ _ _ h => h) (Or.inl ⟨by kernel_rfl, fun w' hw => by go_simp⟩) hS trivial ?_
        refine anyT_take (i := 11) (n := 11) (v := .pointer (some ⟨b, 0, none⟩)) rfl (by decide) (by kernel_rfl) (by kernel_rfl) (by kernel_rfl) (fun _ _ _ h => h) (Or.inl ⟨by kernel_rfl, fun w' hw => by go_simp⟩) hS trivial ?_
        refine anyT_take (i := 12) (n := 10) (v := .pointer (some ⟨b, 1, none⟩)) rfl (by decide) (by kernel_rfl) (by kernel_rfl) (by kernel_rfl) (fun _ _ _ h => h) (Or.inl ⟨by kernel_rfl, fun w' hw => by go_simp⟩) hS trivial ?_
        refine anyK_take (i := 13) (n := 9) (v := .slice (some ⟨g2, off2, none⟩) n c2) rfl rfl (by kernel_rfl) (by kernel_rfl) (by kernel_rfl) (by kernel_rfl) (by kernel_rfl) (fun _ _ _ h => h) (Or.inl ⟨by kernel_rfl, fun w' hw => by (obtain ⟨z0, z1, z2, z3, z4⟩ := hw; go_simp)⟩) hS trivial ?_
        refine anyT_take (i := 14) (n := 8) (v := .int .i64 (k : Nat)) rfl (by decide) (by kernel_rfl) (by kernel_rfl) (by kernel_rfl) (fun _ _ _ h => h) (Or.inl ⟨by kernel_rfl, fun w' hw => by go_simp⟩) hS trivial ?_
        refine anyT_take (i := 15) (n := 7) (v := .pointer (some ⟨g2, off2 + k * 2, none⟩)) rfl (by decide) (by kernel_rfl) (by kernel_rfl) (by kernel_rfl) (fun _ _ _ h => h) (Or.inl ⟨by kernel_rfl, fun w' hw => by go_simp⟩) hS trivial ?_
        refine anyK_take (i := 16) (n := 6) (v := .agg #[.int .i64 p, .int .i64 q]) rfl rfl (by kernel_rfl) (by kernel_rfl) (by kernel_rfl) (by kernel_rfl) (by kernel_rfl) (fun _ _ _ h => h) (Or.inl ⟨by kernel_rfl, fun w' hw => by (obtain ⟨z0, z1, z2, z3, z4⟩ := hw; go_simp)⟩) hS trivial ?_
        refine anyK_all (n := 5) (rs := [8]) (by kernel_rfl) (by simp) (fun i hi => ?_)
        simp only [List.mem_cons, List.not_mem_nil, or_false] at hi
        obtain rfl := hi
        refine wpOp_step rfl (fun K' hK => ?_)
        go_simp
        refine (HX.out _).mono ?_
        rintro e v ⟨rfl, hb⟩
        have HBn := Lib.hid (bthen HB.out hb)
        clear HB
        have HB := HBn
        clear HBn
        replace hS := HSA.out _ HB.out
        refine hK _ _ ⟨fun _ _ => hS, trivial, ?_⟩
        clear hK hb
        refine anyT_take (i := 9) (n := 4) (v := .string (X ++ { data := #[58] })) rfl (by decide) (by kernel_rfl) (by kernel_rfl) (by kernel_rfl) (fun _ _ _ h => h) (Or.inl ⟨by kernel_rfl, fun w' hw => by (go_simp <;> ((try simp only [ByteArray.size_append, hs47, hs58, hs32]); omega))⟩) hS trivial ?_
        refine anyK_all (n := 3) (rs := [17]) (by kernel_rfl) (by simp) (fun i hi => ?_)
        simp only [List.mem_cons, List.not_mem_nil, or_false] at hi
        obtain rfl := hi
        refine wpOp_step rfl (fun K' hK => ?_)
        go_simp
        refine (HF.out _).mono ?_
        rintro e v ⟨rfl, hb⟩
        have HBn := Lib.hid (bthen HB.out hb)
        clear HB
        have HB := HBn
        clear HBn
        replace hS := HSA.out _ HB.out
        refine hK _ _ ⟨fun _ _ => hS, trivial, ?_⟩
        clear hK hb
        refine anyT_take (i := 18) (n := 2) (v := .string (X ++ { data := #[58] } ++ F)) rfl (by decide) (by kernel_rfl) (by kernel_rfl) (by kernel_rfl) (fun _ _ _ h => h) (Or.inl ⟨by kernel_rfl, fun w' hw => by (go_simp <;> ((try simp only [ByteArray.size_append, hs47, hs58, hs32]); omega))⟩) hS trivial ?_
        refine anyT_take (i := 19) (n := 1) (v := .string (O ++ (X ++ { data := #[58] } ++ F))) rfl (by decide) (by kernel_rfl) (by kernel_rfl) (by kernel_rfl) (fun _ _ _ h => h) (Or.inl ⟨by kernel_rfl, fun w' hw => by (go_simp <;> ((try simp only [ByteArray.size_append, hs47, hs58, hs32]); omega))⟩) hS trivial ?_
        refine anyK_all (n := 0) (rs := [20]) (by kernel_rfl) (by simp) (fun i hi => ?_)
        simp only [List.mem_cons, List.not_mem_nil, or_false] at hi
        obtain rfl := hi
        refine wpOp_step rfl (fun K' hK => ?_)
        go_simp
        refine hK _ _ ⟨(fun h => absurd rfl h), trivial, ?_⟩
        clear hK
        refine ⟨by kernel_rfl, ?_⟩
        go_wp2_with fail
        go_roundw
        case rel => exact ⟨k + 1, by omega, by go_num, by rw [HPC.out], Lib.hid HB.out⟩
        case measure => simp [intOf] <;> omega
    · obtain rfl : k = n := by omega
      have hki : ¬ (k : Int) < (k : Int) := by omega
      have HR := Lib.hid (show ltA vs fs k = jnB (ltL vs fs k) { data := #[32] } by unfold ltA; rw [if_neg (by omega)])
      go_wp2_with fail
      go_ret
      exact ⟨by rw [HR.out]; rfl, HB.out⟩
set_option maxRecDepth 20000 in
theorem specLawText_any (a1 a2 : Option Addr) (n m c1 c2 : Nat) (vs fs : List Int) (w : World) (hn : n ≤ 1048576) (hm : m ≤ 1048576) (h1 : IsInts w a1 n vs) (h2 : IsInts w a2 (m * 2) fs) :
    Calls Tryd.prog 13 #[.agg #[.slice a1 n c1, .slice a2 m c2]] w fun e w' => e = .returned (ltV vs fs n m) ∧ Below w.heap.size w w' := by
  have hA := (Below.refl _ w).alloc (Nat.le_refl _) (.cells #[.slice a1 n c1, .slice a2 m c2] 25)
  have H0 := Lib.hid (And.intro (C2.new w 25 (.slice a1 n c1) (.slice a2 m c2)) (And.intro (h1.below hA) (And.intro (h2.below hA) hA)))
  have hl := h1.length
  have HVA := Lib.hid (fun w b h0 h1 h2 => l05Is_any b a1 a2 n m c1 c2 vs fs w hn hm h0 h1 h2)
  clear h1 h2 hA
  cases hv : lawOk vs fs n m with
  | false =>
    have HV := Lib.hid (And.intro hv (show ltV vs fs n m = .tuple #[.string { data := #[] }, .bool false] by unfold ltV; rw [hv]; rfl))
    clear hv
    go_enter Tryd.func13, Tryd.ntmps13
    go_wp2_with fail
    refine (HVA.out _ _ H0.out.1 H0.out.2.1 H0.out.2.2.1).mono ?_
    rintro e w1 ⟨rfl, hb⟩
    rw [HV.out.1]
    have HB := Lib.hid (bthen H0.out.2.2.2 hb)
    clear hb
    go_wp2_with fail
    go_ret2
    exact ⟨by rw [HV.out.2]; rfl, HB.out⟩
  | true =>
    have HV := Lib.hid (And.intro hv (show ltV vs fs n m = .tuple #[.string (jnB (ltL vs fs n) { data := #[32] }), .bool true] by unfold ltV; rw [hv]; rfl))
    obtain ⟨hmn, hQ⟩ := lawQ_of hl hv
    obtain rfl : n = m := hmn.symm
    have HQ := Lib.hid hQ
    clear hv hQ
    go_enter Tryd.func13, Tryd.ntmps13
    go_wp2_with fail
    refine (HVA.out _ _ H0.out.1 H0.out.2.1 H0.out.2.2.1).mono ?_
    rintro e w1 ⟨rfl, hb⟩
    rw [HV.out.1]
    have HL := Lib.hid ((show LtM _ _ a1 a2 _ c1 c2 vs fs from ⟨H0.out.1, H0.out.2.1, H0.out.2.2.1⟩).all hb)
    have HBW := Lib.hid (bthen H0.out.2.2.2 hb)
    clear hb H0
    go_wp2_with fail
    refine (l05Text_any _ _ _ _ _ _ _ _ _ HQ.out HL.out).mono ?_
    rintro e w2 ⟨rfl, hb⟩
    have HB := Lib.hid (bthen HBW.out hb)
    clear hb
    go_wp2_with fail
    go_ret2
    exact ⟨by rw [HV.out.2]; rfl, HB.out⟩
set_option maxHeartbeats 3200000 in
theorem fnExactLawText_walk (a1 a2 : Option Addr) (n m c1 c2 : Nat) (vs fs : List Int) (w : World) (hn : n ≤ maxLen) (hm : m ≤ maxLen) (h1 : IsInts w a1 n vs) (h2 : IsInts w a2 (m * 2) fs) (ht : TabT w) :
    Calls Tryd.prog 4 #[.agg #[.slice a1 n c1, .slice a2 m c2]] w fun e w' => e = .returned (.bool true) ∧ Below w.heap.size w w' := by
  have H0 := Lib.hid (LwI.start (V := .slice a1 n c1) (C := .slice a2 m c2) h1 h2 33)
  have HTB := Lib.hid ht
  clear h1 h2 ht
  by_cases hsz : n + m ≤ 1048576
  · have HZ := Lib.hid (fun w => szLaw_yes a1 a2 n m c1 c2 1048576 w (Nat.le_refl _) hsz)
    have hz0 : ¬ ((1048576 - n - m : Nat) : Int) < 0 := by omega
    obtain ⟨z, hz⟩ : ∃ z, 1048576 - n - m = z := ⟨_, rfl⟩
    rw [hz] at HZ hz0
    have HT := Lib.hid (fun w h1 h2 => toLaw_any a1 a2 n m c1 c2 vs fs w (by omega) (by omega) h1 h2)
    have HS := Lib.hid (fun w a1 a2 c1 c2 h1 h2 => specLawText_any a1 a2 n m c1 c2 vs fs w (by omega) (by omega) h1 h2)
    have HI := Lib.hid (fun w a1 a2 c1 c2 h1 h2 ht => lawText_any a1 a2 n m c1 c2 vs fs w (by omega) (by omega) h1 h2 ht)
    have HE := Lib.hid (fun w a1 a2 b1 b2 c1 c2 d1 d2 h1 h2 k1 k2 => eqLaw_read a1 a2 b1 b2 n m c1 c2 d1 d2 vs fs w (by omega) (by omega) h1 h2 k1 k2)
    obtain ⟨s, ok, hf⟩ := ltV_form vs fs n m
    rw [hf] at HS HI
    clear hz hsz hf
    obtain ⟨x0, x1, x2, x3, x4⟩ := H0.out.bx
    go_enter Tryd.func4, Tryd.ntmps4
    go_wp2_with fail
    refine (HZ.out _).mono ?_
    rintro e w1 ⟨rfl, hb⟩
    have H1 := Lib.hid (H0.out.all hb)
    clear hb x0 x1 x2 x3 x4 H0
    obtain ⟨x0, x1, x2, x3, x4⟩ := H1.out.bx
    go_wp2_with fail
    refine (HT.out _ H1.out.val H1.out.cha).mono ?_
    rintro e w2 ⟨g1, k1, g2, k2, rfl, hl, hb⟩
    have H2 := Lib.hid (And.intro (H1.out.all hb) hl.ints)
    clear hb hl x0 x1 x2 x3 x4 H1
    obtain ⟨x0, x1, x2, x3, x4⟩ := H2.out.1.bx
    go_wp2_with fail
    refine (HS.out _ _ _ _ _ H2.out.2.1 H2.out.2.2).mono ?_
    rintro e w3 ⟨rfl, hb⟩
    have H3 := Lib.hid (H2.out.1.all hb)
    clear hb x0 x1 x2 x3 x4 H2
    obtain ⟨x0, x1, x2, x3, x4⟩ := H3.out.bx
    go_wp2_with fail
    refine (HT.out _ H3.out.val H3.out.cha).mono ?_
    rintro e w4 ⟨q1, l1, q2, l2, rfl, hl, hb⟩
    have hb4 : Below w4.heap.size w4 (w4.alloc (.cells #[.slice (some ⟨q1, 0, none⟩) n l1, .slice (some ⟨q2, 0, none⟩) m l2] 25)) := (Below.refl _ _).alloc (Nat.le_refl _) _
    have H4 := Lib.hid (And.intro ((H3.out.all hb).all hb4) (And.intro (hl.below hb4).ints (C2.new w4 25 (.slice (some ⟨q1, 0, none⟩) n l1) (.slice (some ⟨q2, 0, none⟩) m l2))))
    clear hb hb4 hl x0 x1 x2 x3 x4 H3
    go_wp2_with fail
    obtain ⟨b4, hb4⟩ : ∃ b, w4.heap.size = b := ⟨_, rfl⟩
    obtain ⟨wB, hwB⟩ : ∃ w', w4.alloc (.cells #[.slice (some ⟨q1, 0, none⟩) n l1, .slice (some ⟨q2, 0, none⟩) m l2] 25) = w' := ⟨_, rfl⟩
    rw [hb4, hwB] at H4
    rw [hwB]
    try rw [hb4]
    clear hwB hb4
    refine (HI.out _ _ _ _ _ H4.out.2.1.1 H4.out.2.1.2 (HTB.out.below H4.out.1.bel)).mono ?_
    rintro e w6 ⟨rfl, hb⟩
    have H6 := Lib.hid (And.intro (H4.out.1.all hb) (And.intro (H4.out.2.1.1.below hb) (And.intro (H4.out.2.1.2.below hb) (H4.out.2.2.all hb))))
    clear hb H4
    obtain ⟨x0, x1, x2, x3, x4⟩ := H6.out.1.bx
    obtain ⟨y0, y1, y2, y3, y4⟩ := H6.out.2.2.2
    have H6d := Lib.hid (And.intro (H6.out.1.all (Below.refl _ w6).drew) (And.intro (H6.out.2.1.below (Below.refl _ w6).drew) (H6.out.2.2.1.below (Below.refl _ w6).drew)))
    go_wp2_with fail
    go_region_held3 (fun w' => w'.cell? ⟨b4, 0, none⟩ = some (.slice (some ⟨q1, 0, none⟩) n l1) ∧ w'.cell? ⟨b4, 1, none⟩ = some (.slice (some ⟨q2, 0, none⟩) m l2) ∧ w'.cell? ⟨w.heap.size, 0, none⟩ = some (.slice a1 n c1) ∧ w'.cell? ⟨w.heap.size, 1, none⟩ = some (.slice a2 m c2) ∧ b4 < w'.heap.size ∧ w.heap.size < w'.heap.size)
      ((repeat' refine And.intro ?_ ?_) <;> first | (go_keep; done) | (go_keep; omega))
      (first
        | (go_at_call 14; refine (HT.out _ H6d.out.1.val H6d.out.1.cha).mono ?_; rintro e w7 ⟨r1, s1, r2, s2, rfl, hl, hb6⟩; have u1 := (bcell hb6).1 b4 0 y4; have u2 := (bcell hb6).1 b4 1 y4; have u3 := (bcell hb6).1 w.heap.size 0 x4; have u4 := (bcell hb6).1 w.heap.size 1 x4; have u5 : b4 < w7.heap.size := Nat.lt_of_lt_of_le y4 hb6.size; have u6 : w.heap.size < w7.heap.size := Nat.lt_of_lt_of_le x4 hb6.size; have H7 := Lib.hid (And.intro hb6 hl.ints); clear hb6 hl)
        | (go_at_call 9; refine (HE.out _ _ _ _ _ _ _ _ _ (H6d.out.2.1.below H7.out.1) (H6d.out.2.2.below H7.out.1) H7.out.2.1 H7.out.2.2).mono ?_; rintro e w8 ⟨rfl, hb7⟩; have u7 := (bcell hb7).1 b4 0 u5; have u8 := (bcell hb7).1 b4 1 u5; have u9 := (bcell hb7).1 w.heap.size 0 u6; have u10 := (bcell hb7).1 w.heap.size 1 u6; have u11 : b4 < w8.heap.size := Nat.lt_of_lt_of_le u5 hb7.size; have u12 : w.heap.size < w8.heap.size := Nat.lt_of_lt_of_le u6 hb7.size; have H8 := Lib.hid (bthen (bthen H6d.out.1.bel H7.out.1) hb7); clear hb7))
    go_wp2
    go_ret
    exact ⟨rfl, H8.out⟩
  · have HZ := Lib.hid (fun w => szLaw_no a1 a2 n m c1 c2 1048576 w (Nat.le_refl _) hn hm (by omega))
    obtain ⟨x0, x1, x2, x3, x4⟩ := H0.out.bx
    go_enter Tryd.func4, Tryd.ntmps4
    go_wp2_with fail
    refine (HZ.out _).mono ?_
    rintro e w1 ⟨rfl, hb⟩
    have H1 := Lib.hid (H0.out.all hb)
    clear hb
    go_wp2
    go_ret
    exact ⟨rfl, H1.out.bel⟩
end Go.Proofs.YtpineiocjaajnaaDoor

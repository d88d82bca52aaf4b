import Derived.Test.YtfageonhlmhhpaaSrc
/- Slices of slices of numbers: what is owned, and the laws' helpers on them. -/
namespace Go.Proofs.Ytfageonhlmhhpaa
open Go.RowKit
set_option linter.unusedVariables false

theorem OwnAt.join {w0 w w' : World} {l l1 : List (Nat × (Obj → Prop))} (h : OwnAt w0 w l) (hb : Below w.heap.size w w') (h1 : Owns w' w.heap.size l1) : OwnAt w0 w' (l1 ++ l) := ⟨h.1.join hb h.2.size h1, bthen h.2 hb⟩
theorem OwnAt.perm {w0 w : World} {l l' : List (Nat × (Obj → Prop))} (h : OwnAt w0 w l) (hp : l.Perm l') : OwnAt w0 w l' := ⟨h.1.perm hp, h.2⟩
theorem OwnAt.arg {w0 w : World} {l : List (Nat × (Obj → Prop))} (h : OwnAt w0 w l) {a len zs} (hx : IsInts w0 a len zs) : IsInts w a len zs := hx.below h.2

/-- A flat row as a block, and as a slice. -/
structure Rw where
  g : Nat
  c : Nat
  zs : List Int
def Rw.v (r : Rw) : Value := .slice (some ⟨r.g, 0, none⟩) r.zs.length r.c
def Rw.o (r : Rw) : Nat × (Obj → Prop) := (r.g, rowO 2 r.c (r.zs.map (Value.int .i64)))
theorem Owns.isInts {w : World} {B : Nat} {l : List (Nat × (Obj → Prop))} (h : Owns w B l) (i : Nat) {r : Rw} (hi : l[i]? = some r.o) : IsInts w (some ⟨r.g, 0, none⟩) r.zs.length r.zs := by
  have := (h.rowAt i hi).1
  rw [List.length_map] at this
  exact IsInts.of_own this

theorem copy_own (a : Option Addr) (len cap : Nat) (zs : List Int) (w0 w : World) (l : List (Nat × (Obj → Prop))) (h : OwnAt w0 w l) (hb : len ≤ 1048576) (hx : IsInts w0 a len zs) :
    Calls Try.prog 9 #[.slice a len cap] w fun e w' => ∃ r : Rw, e = .returned (.slice (some ⟨r.g, 0, none⟩) len r.c) ∧ r.zs = zs ∧ OwnAt w0 w' (r.o :: l) := by
  obtain rfl := hx.1
  refine (toInt64S_own a _ cap zs w hb (h.arg hx)).mono ?_
  rintro e w1 ⟨g, c, rfl, hown, hbw⟩
  exact ⟨⟨g, c, zs⟩, rfl, rfl, h.join hbw (Owns.ofRow hown)⟩
theorem eq_own (i j : Nat) (r r' : Rw) (n : Nat) (w0 w : World) (l : List (Nat × (Obj → Prop))) (h : OwnAt w0 w l) (hn : r.zs.length = n) (hn2 : n < 4611686018427387904) (hz : r.zs = r'.zs) (hi : l[i]? = some r.o) (hj : l[j]? = some r'.o) :
    Calls Try.prog 11 #[.slice (some ⟨r.g, 0, none⟩) n r.c, .slice (some ⟨r'.g, 0, none⟩) n r'.c] w fun e w' => e = .returned (.bool true) ∧ OwnAt w0 w' l := by
  have h1 := h.1.isInts i hi
  have h2 := h.1.isInts j hj
  rw [← hz] at h2
  rw [hn] at h1 h2
  refine (eqInt64S_any _ _ n n _ _ r.zs r.zs w hn2 h1 h2).mono ?_
  rintro e w' ⟨rfl, hb⟩
  exact ⟨by simp, h.ret hb⟩
theorem mark_own (i : Nat) (r : Rw) (z : Int) (w0 w : World) (l : List (Nat × (Obj → Prop))) (h : OwnAt w0 w l) (hn : r.zs.length ≤ 1048576) (hz0 : 0 ≤ z) (hz : z ≤ 1152921504606846976) (hi : l[i]? = some r.o) :
    Calls Try.prog 20 #[.slice (some ⟨r.g, 0, none⟩) r.zs.length r.c, .int .i64 z] w fun e w' => e = .returned (.int .i64 (z + r.zs.length)) ∧ OwnAt w0 w' (l.set i (Rw.o ⟨r.g, r.c, marks z.toNat r.zs.length⟩)) := by
  obtain ⟨k0, rfl⟩ := Int.eq_ofNat_of_zero_le hz0
  have ho := (h.1.rowAt i hi).1
  rw [List.length_map] at ho
  refine (markInt64S_any w0.heap.size _ _ _ r.zs k0 w hn (by omega) ho).mono ?_
  rintro e w' ⟨rfl, hown, hg⟩
  refine ⟨by simp, ?_, below_grown h.2 ho hg h.2.size⟩
  obtain ⟨hB, o, hho, hφ⟩ := (Owns.ofRow hown).holds _ List.mem_cons_self
  exact h.1.upd hi hg (Or.inl rfl) hB hho hφ
theorem held_own (i : Nat) (r : Rw) (z : Int) (w0 w : World) (l : List (Nat × (Obj → Prop))) (h : OwnAt w0 w l) (hn : r.zs.length ≤ 1048576) (hz0 : 0 ≤ z) (hz : z ≤ 1152921504606846976) (hm : r.zs = marks z.toNat r.zs.length) (hi : l[i]? = some r.o) :
    Calls Try.prog 21 #[.slice (some ⟨r.g, 0, none⟩) r.zs.length r.c, .int .i64 z] w fun e w' => e = .returned (.int .i64 (z + r.zs.length)) ∧ OwnAt w0 w' l := by
  obtain ⟨k0, rfl⟩ := Int.eq_ofNat_of_zero_le hz0
  refine (heldInt64S_any _ _ _ _ k0 w hn (by omega) (by simpa using hm) (h.1.isInts i hi)).mono ?_
  rintro e w' ⟨rfl, hb⟩
  exact ⟨by simp, h.ret hb⟩
theorem Try.infoR : (Try.prog.info? 22).map (fun i => (i.zero, i.size, i.bytes)) = some (some (.slice none 0 0), 1, 24) := by kernel_rfl
/-- A slice of slices: the outer row and the inner ones. -/
def llO (go co : Nat) (rs : List Rw) : List (Nat × (Obj → Prop)) := (go, rowO 22 co (rs.map Rw.v)) :: rs.map Rw.o
theorem rw_at (rs : List Rw) (d : Rw) (k : Nat) (h : k < rs.length) : rs[k]? = some (rs.getD k d) := by
  rw [List.getElem?_eq_getElem h]; simp [List.getD, h]
theorem llCell {w : World} {B go co : Nat} {rs : List Rw} {post : List (Nat × (Obj → Prop))} (h : Owns w B (llO go co rs ++ post)) (k : Nat) {r : Rw} (hk : rs[k]? = some r) : w.cell? ⟨go, k, none⟩ = some (.slice (some ⟨r.g, 0, none⟩) r.zs.length r.c) := by
  have hl := (List.getElem?_eq_some_iff.1 hk).1
  rw [h.cellAt 0 rfl k (by simpa using hl)]
  simp [hk, Rw.v]
theorem llRow {go co : Nat} {rs : List Rw} {post : List (Nat × (Obj → Prop))} (k : Nat) {r : Rw} (hk : rs[k]? = some r) : (llO go co rs ++ post)[k + 1]? = some r.o := by
  have hl := (List.getElem?_eq_some_iff.1 hk).1
  rw [List.getElem?_append_left (by simp [llO]; omega)]
  simp [llO, hk]

set_option maxHeartbeats 800000 in
theorem eqSS_own (n : Nat) (go co go' co' : Nat) (rs rs' : List Rw) (w0 w : World) (l post post' : List (Nat × (Obj → Prop))) (h : OwnAt w0 w l) (hp : l.Perm (llO go co rs ++ post)) (hp' : l.Perm (llO go' co' rs' ++ post'))
    (hn : rs.length = n) (hn16 : n ≤ 16) (hlen : ∀ r ∈ rs, r.zs.length ≤ 1048576) (he : rs.map Rw.zs = rs'.map Rw.zs) :
    Calls Try.prog 24 #[.slice (some ⟨go, 0, none⟩) n co, .slice (some ⟨go', 0, none⟩) n co'] w fun e w' => e = .returned (.bool true) ∧ OwnAt w0 w' l := by
  have hn' : rs'.length = n := by have := congrArg List.length he; simp at this; omega
  have H := Lib.hid h
  have HE := Lib.hid (And.intro he (And.intro hlen (And.intro hn hn')))
  have HP := Lib.hid (And.intro hp hp')
  clear h he hlen hn hn' hp hp'
  go_enter Try.func24, Try.ntmps24
  go_wp2
  go_loopw [5] (fun i wr => ∃ k : Nat, k ≤ n ∧ i = .int .i64 k ∧ OwnAt w0 wr l) (fun i _ => n - (intOf i).toNat)
  case atStart => exact ⟨0, Nat.zero_le _, rfl, H.out⟩
  case round =>
    obtain ⟨k, hk, rfl, hO⟩ := hrel
    have HO := Lib.hid hO
    by_cases hlt : k < n
    · have hk0 : (0:Int) ≤ (k:Int) := by omega
      have hkl : (k:Int) < (n:Int) := by omega
      obtain ⟨r, hr⟩ : ∃ r, rs[k]? = some r := ⟨_, List.getElem?_eq_getElem (by rw [HE.out.2.2.1]; exact hlt)⟩
      obtain ⟨r', hr'⟩ : ∃ r, rs'[k]? = some r := ⟨_, List.getElem?_eq_getElem (by rw [HE.out.2.2.2]; exact hlt)⟩
      have hzz : r.zs = r'.zs := by
        have := congrArg (fun l => l[k]?) HE.out.1
        simpa [hr, hr'] using this
      have O1 := hO.1.perm HP.out.1
      have O2 := hO.1.perm HP.out.2
      have c1 := llCell O1 k hr
      have c2 := llCell O2 k hr'
      have i1 := O1.isInts (k + 1) (llRow k hr)
      have i2 := O2.isInts (k + 1) (llRow k hr')
      have hl := HE.out.2.1 r (List.mem_of_getElem? hr)
      have HI := Lib.hid (And.intro i1 (And.intro i2 hzz))
      clear O1 O2 hO i1 i2 hr hr' hzz
      go_wp2_with fail
      go_region_law (first | (go_simp; go_at_call 11; refine (eqInt64S_any _ _ _ _ _ _ _ _ _ (by omega) (by exact HI.out.1) (by exact HI.out.2.1)).mono ?_; rintro e w5 ⟨rfl, hb5⟩; rw [HI.out.2.2]))
      all_goals (try go_wp2_with fail)
      all_goals
        go_roundw
        case rel => exact ⟨k + 1, by omega, by go_num, (show OwnAt w0 wr.drew l from HO.out.ret (drewN_below wr 1)).ret hb5⟩
        case measure => simp [intOf]; omega
    · go_wp2
      go_ret
      exact ⟨rfl, HO.out⟩
theorem eqSS_nil (w : World) : Calls Try.prog 24 #[.slice none 0 0, .slice none 0 0] w fun e w' => e = .returned (.bool true) ∧ w = w' := by
  go_enter Try.func24, Try.ntmps24
  go_wp2
  go_loop [5] (fun i => i = .int .i64 0) (fun _ => 0)
  case atStart => rfl
  case round =>
    subst hrel
    go_wp2
    go_ret
    exact ⟨rfl, rfl⟩
theorem markSS_nil (z : Int) (w : World) : Calls Try.prog 25 #[.slice none 0 0, .int .i64 z] w fun e w' => e = .returned (.int .i64 z) ∧ w = w' := by
  go_enter Try.func25, Try.ntmps25
  go_wp2
  go_loop [5, 1] (fun i m => i = .int .i64 0 ∧ m = .int .i64 z) (fun _ _ => 0)
  case atStart => exact ⟨rfl, rfl⟩
  case round =>
    obtain ⟨rfl, rfl⟩ := hrel
    go_wp2
    go_ret
    exact ⟨rfl, rfl⟩
theorem heldSS_nil (z : Int) (w : World) : Calls Try.prog 26 #[.slice none 0 0, .int .i64 z] w fun e w' => e = .returned (.int .i64 z) ∧ w = w' := by
  go_enter Try.func26, Try.ntmps26
  go_wp2
  go_loop [5, 1] (fun i m => i = .int .i64 0 ∧ m = .int .i64 z) (fun _ _ => 0)
  case atStart => exact ⟨rfl, rfl⟩
  case round =>
    obtain ⟨rfl, rfl⟩ := hrel
    go_wp2
    go_ret
    exact ⟨rfl, rfl⟩
def markR : Int → List Rw → List Rw
  | _, [] => []
  | z, r :: rs => ⟨r.g, r.c, marks z.toNat r.zs.length⟩ :: markR (z + r.zs.length) rs
def lenZ (rs : List Rw) : Int := (rs.map (fun r => (r.zs.length : Int))).sum
theorem lenZ_snoc (rs : List Rw) (r : Rw) : lenZ (rs ++ [r]) = lenZ rs + r.zs.length := by simp [lenZ]
theorem lenZ_bd : ∀ (rs : List Rw), (∀ r ∈ rs, r.zs.length ≤ 1048576) → 0 ≤ lenZ rs ∧ lenZ rs ≤ 1048576 * (rs.length : Int)
  | [], _ => by simp [lenZ]
  | r :: rs, h => by
    have h1 := lenZ_bd rs (fun x hx => h x (List.mem_cons_of_mem _ hx))
    have h2 := h r List.mem_cons_self
    simp only [lenZ, List.map_cons, List.sum_cons, List.length_cons] at *
    omega
theorem markR_len : ∀ (z : Int) (rs : List Rw), (markR z rs).length = rs.length
  | _, [] => rfl
  | z, r :: rs => by simp [markR, markR_len]
theorem markR_snoc : ∀ (z : Int) (rs : List Rw) (r : Rw), markR z (rs ++ [r]) = markR z rs ++ [⟨r.g, r.c, marks (z + lenZ rs).toNat r.zs.length⟩]
  | z, [], r => by simp [markR, lenZ]
  | z, x :: rs, r => by
    simp only [List.cons_append, markR, List.cons.injEq, true_and]
    rw [markR_snoc (z + x.zs.length) rs r]
    simp only [lenZ, List.map_cons, List.sum_cons]
    rw [show z + (x.zs.length : Int) + (rs.map (fun r => (r.zs.length : Int))).sum = z + ((x.zs.length : Int) + (rs.map (fun r => (r.zs.length : Int))).sum) from by omega]
theorem markR_at : ∀ (z : Int) (rs : List Rw) (k : Nat) (r : Rw), rs[k]? = some r → (markR z rs)[k]? = some ⟨r.g, r.c, marks (z + lenZ (rs.take k)).toNat r.zs.length⟩
  | _, [], k, r, h => by simp at h
  | z, x :: rs, 0, r, h => by simp at h; subst h; simp [markR, lenZ]
  | z, x :: rs, k + 1, r, h => by
    simp only [List.getElem?_cons_succ] at h
    simp only [markR, List.getElem?_cons_succ]
    rw [markR_at (z + x.zs.length) rs k r h]
    simp only [lenZ, List.take_succ_cons, List.map_cons, List.sum_cons]
    rw [show z + (x.zs.length : Int) + ((rs.take k).map (fun r => (r.zs.length : Int))).sum = z + ((x.zs.length : Int) + ((rs.take k).map (fun r => (r.zs.length : Int))).sum) from by omega]
theorem llSet {go co : Nat} {A B : List Rw} {r r' : Rw} {post : List (Nat × (Obj → Prop))} {k : Nat} (hk : A.length = k) (hv : r'.v = r.v) : (llO go co (A ++ r :: B) ++ post).set (k + 1) r'.o = llO go co (A ++ r' :: B) ++ post := by
  unfold llO
  simp only [List.cons_append, List.set_cons_succ, List.map_append, List.map_cons, List.append_assoc, hv]
  rw [List.set_append_right _ _ (by simp [hk]), List.length_map, hk, Nat.sub_self, List.set_cons_zero]

set_option maxHeartbeats 800000 in
theorem markSS_own (n : Nat) (go co : Nat) (rs : List Rw) (z : Int) (w0 w : World) (post : List (Nat × (Obj → Prop))) (h : OwnAt w0 w (llO go co rs ++ post))
    (hn : rs.length = n) (hn16 : n ≤ 16) (hlen : ∀ r ∈ rs, r.zs.length ≤ 1048576) (hz0 : 0 ≤ z) (hz : z ≤ 1000000000) :
    Calls Try.prog 25 #[.slice (some ⟨go, 0, none⟩) n co, .int .i64 z] w fun e w' => e = .returned (.int .i64 (z + lenZ rs)) ∧ OwnAt w0 w' (llO go co (markR z rs) ++ post) := by
  have H := Lib.hid h
  have HE := Lib.hid (And.intro hlen hn)
  clear h hlen hn
  go_enter Try.func25, Try.ntmps25
  go_wp2
  go_loopw [5, 1] (fun i m wr => ∃ k : Nat, k ≤ n ∧ i = .int .i64 k ∧ m = .int .i64 (z + lenZ (rs.take k)) ∧ OwnAt w0 wr (llO go co (markR z (rs.take k) ++ rs.drop k) ++ post)) (fun i _ _ => n - (intOf i).toNat)
  case atStart => exact ⟨0, Nat.zero_le _, rfl, by simp [lenZ], by simpa [markR] using H.out⟩
  case round =>
    obtain ⟨k, hk, rfl, rfl, hO⟩ := hrel
    have hbd := lenZ_bd (rs.take k) (fun r hr => HE.out.1 r (List.mem_of_mem_take hr))
    rw [List.length_take, HE.out.2, Nat.min_eq_left hk] at hbd
    by_cases hlt : k < n
    · have hk0 : (0:Int) ≤ (k:Int) := by omega
      have hkl : (k:Int) < (n:Int) := by omega
      have hkr : k < rs.length := by rw [HE.out.2]; exact hlt
      obtain ⟨r, hr⟩ : ∃ r, rs[k]? = some r := ⟨_, List.getElem?_eq_getElem hkr⟩
      have hd : rs.drop k = r :: rs.drop (k + 1) := by
        rw [List.drop_eq_getElem_cons hkr]
        congr 1
        rw [List.getElem?_eq_getElem hkr] at hr
        simpa using hr
      have hal : (markR z (rs.take k)).length = k := by rw [markR_len, List.length_take, HE.out.2, Nat.min_eq_left hk]
      rw [hd] at hO
      have hr2 : (markR z (rs.take k) ++ r :: rs.drop (k + 1))[k]? = some r := by
        rw [List.getElem?_append_right (by omega), hal, Nat.sub_self]; rfl
      have c1 := llCell hO.1 k hr2
      have hl := HE.out.1 r (List.mem_of_getElem? hr)
      have hrow := llRow (go := go) (co := co) (post := post) k hr2
      have HO := Lib.hid (And.intro hO (And.intro hr (And.intro hal hrow)))
      obtain ⟨zk, hzk⟩ : ∃ zk, z + lenZ (rs.take k) = zk := ⟨_, rfl⟩
      have hzb : 0 ≤ zk ∧ zk ≤ 2000000000 := by omega
      rw [hzk]
      have HZ := Lib.hid hzk
      clear hO hr hr2 hd hal hrow hzk hbd
      go_wp2_with fail
      refine (mark_own (k + 1) r _ w0 wr _ HO.out.1 hl (by omega) (by omega) HO.out.2.2.2).mono ?_
      rintro e w1 ⟨rfl, h1⟩
      have H1 := Lib.hid h1
      clear h1
      go_wp2_with fail
      go_roundw
      case rel =>
        obtain ⟨_, hr, hal, _⟩ := HO.out
        have etk : rs.take (k + 1) = rs.take k ++ [r] := by
          rw [List.take_add_one, hr]; rfl
        refine ⟨k + 1, by omega, by go_num, ?_, ?_⟩
        · rw [etk, lenZ_snoc, ← HZ.out]
          congr 1
          omega
        · have h1 := H1.out
          rw [llSet hal (by simp [Rw.v, marks_len])] at h1
          rw [etk, markR_snoc, HZ.out, List.append_assoc]
          exact h1
      case measure => simp [intOf]; omega
    · have hkl : k = n := by omega
      subst hkl
      go_wp2
      go_ret
      have e1 : rs.take k = rs := by rw [← HE.out.2, List.take_length]
      have e2 : rs.drop k = [] := by rw [← HE.out.2, List.drop_length]
      rw [e1, e2, List.append_nil] at hO
      exact ⟨by rw [e1]; rfl, hO⟩
set_option maxHeartbeats 800000 in
theorem heldSS_own (n : Nat) (go co : Nat) (rs : List Rw) (z : Int) (w0 w : World) (l post : List (Nat × (Obj → Prop))) (h : OwnAt w0 w l) (hp : l.Perm (llO go co (markR z rs) ++ post))
    (hn : rs.length = n) (hn16 : n ≤ 16) (hlen : ∀ r ∈ rs, r.zs.length ≤ 1048576) (hz0 : 0 ≤ z) (hz : z ≤ 1000000000) :
    Calls Try.prog 26 #[.slice (some ⟨go, 0, none⟩) n co, .int .i64 z] w fun e w' => e = .returned (.int .i64 (z + lenZ rs)) ∧ OwnAt w0 w' l := by
  have H := Lib.hid h
  have HE := Lib.hid (And.intro hlen (And.intro hn hp))
  clear h hlen hn hp
  go_enter Try.func26, Try.ntmps26
  go_wp2
  go_loopw [5, 1] (fun i m wr => ∃ k : Nat, k ≤ n ∧ i = .int .i64 k ∧ m = .int .i64 (z + lenZ (rs.take k)) ∧ OwnAt w0 wr l) (fun i _ _ => n - (intOf i).toNat)
  case atStart => exact ⟨0, Nat.zero_le _, rfl, by simp [lenZ], H.out⟩
  case round =>
    obtain ⟨k, hk, rfl, rfl, hO⟩ := hrel
    have hbd := lenZ_bd (rs.take k) (fun r hr => HE.out.1 r (List.mem_of_mem_take hr))
    rw [List.length_take, HE.out.2.1, Nat.min_eq_left hk] at hbd
    by_cases hlt : k < n
    · have hk0 : (0:Int) ≤ (k:Int) := by omega
      have hkl : (k:Int) < (n:Int) := by omega
      have hkr : k < rs.length := by rw [HE.out.2.1]; exact hlt
      obtain ⟨r, hr⟩ : ∃ r, rs[k]? = some r := ⟨_, List.getElem?_eq_getElem hkr⟩
      have hl := HE.out.1 r (List.mem_of_getElem? hr)
      have hr2 := markR_at z rs k r hr
      have O1 := hO.perm HE.out.2.2
      have c1 := llCell O1.1 k hr2
      rw [marks_len] at c1
      have hrow := llRow (go := go) (co := co) (post := post) k hr2
      obtain ⟨zk, hzk⟩ : ∃ zk, z + lenZ (rs.take k) = zk := ⟨_, rfl⟩
      have hzb : 0 ≤ zk ∧ zk ≤ 2000000000 := by omega
      rw [hzk] at hrow
      rw [hzk]
      have HO := Lib.hid (And.intro O1 (And.intro hr (And.intro hrow (And.intro hO hzk))))
      clear hO hr hr2 hrow hzk hbd O1
      go_wp2_with fail
      have hc := held_own (k + 1) ⟨r.g, r.c, marks zk.toNat r.zs.length⟩ zk w0 wr _ HO.out.1 (by simp only [marks_len]; exact hl) (by omega) (by omega) (by simp only [marks_len]) HO.out.2.2.1
      simp only [marks_len] at hc
      refine hc.mono ?_
      rintro e w1 ⟨rfl, h1⟩
      have H1 := Lib.hid (h1.perm HE.out.2.2.symm)
      clear h1 hc
      go_wp2_with fail
      go_roundw
      case rel =>
        obtain ⟨_, hr, _, _, hzk⟩ := HO.out
        have etk : rs.take (k + 1) = rs.take k ++ [r] := by
          rw [List.take_add_one, hr]; rfl
        refine ⟨k + 1, by omega, by go_num, ?_, H1.out⟩
        rw [etk, lenZ_snoc, ← hzk]
        congr 1
        omega
      case measure => simp [intOf]; omega
    · have hkl : k = n := by omega
      subst hkl
      go_wp2
      go_ret
      have e1 : rs.take k = rs := by rw [← HE.out.2.1, List.take_length]
      exact ⟨by rw [e1]; rfl, hO⟩
end Go.Proofs.Ytfageonhlmhhpaa

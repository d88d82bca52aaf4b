import Derived.Test.YtpineiocjaajnaaDcI
import Derived.Test.YtpineiocjaajnaaDcS
import Derived.Test.YtpineiocjaajnaaRejCost
/- The law FnExactDiceCost. Condition: none. -/
namespace Go.Proofs.Ytpineiocjaajnaa
open Go.RowKit
set_option linter.unusedVariables false

theorem fnExactDiceCost_walk (n : Int) (w : World) :
    Calls Try.prog 5 #[.int .i64 n] w fun e w' => e = .returned (.bool true) ∧ Below w.heap.size w w' := by
  obtain ⟨p, q, b, hv⟩ := dcV_form n
  have H1 := Lib.hid (fun w => specDiceCost_any n w)
  have H2 := Lib.hid (fun w => diceCost_any n w)
  rw [hv] at H1 H2
  clear hv
  go_enter Try.func5, Try.ntmps5
  go_wp2_with fail
  refine (H1.out _).mono ?_
  rintro e w1 ⟨rfl, hb1⟩
  have HB1 := Lib.hid hb1
  clear hb1
  go_wp2_with fail
  refine (H2.out _).mono ?_
  rintro e w2 ⟨rfl, hb2⟩
  have q0 := (bcell hb2).1 w1.heap.size 0 (by simp)
  have q1 := (bcell hb2).1 w1.heap.size 1 (by simp)
  have HB2 := Lib.hid (bthen (HB1.out.alloc HB1.out.size _) hb2)
  have hz := hb2.size
  simp at q0 q1
  have hba : Below w2.heap.size w2 (w2.alloc (.cells #[.int .i64 p, .int .i64 q] 33)) := (Below.refl _ w2).alloc (Nat.le_refl _) _
  have c0 := (hba.cell (p := ⟨w1.heap.size, 0, none⟩) (World.block_lt_of_cell? w2 _ q0)).trans q0
  have c1 := (hba.cell (p := ⟨w1.heap.size, 1, none⟩) (World.block_lt_of_cell? w2 _ q1)).trans q1
  clear hb2 hz hba
  go_wp2_with fail
  refine (eqFraction_same p q _).mono ?_
  rintro e w3 ⟨rfl, hb3⟩
  have HB3 := Lib.hid (bthen (HB2.out.alloc HB2.out.size _) hb3)
  clear hb3
  go_wp2_with fail
  go_ret
  exact ⟨rfl, HB3.out⟩
end Go.Proofs.Ytpineiocjaajnaa

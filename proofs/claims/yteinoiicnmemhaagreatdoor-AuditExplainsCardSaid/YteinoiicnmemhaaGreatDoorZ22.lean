/- Proved here: contracts of functions and plain laws, part 22 of one proof. Conditions: each theorem names its own. -/
import Derived.Test.YteinoiicnmemhaaGreatDoorZ17
import Derived.Test.YteinoiicnmemhaaGreatDoorZ20
set_option linter.unusedSimpArgs false
set_option linter.unusedVariables false
namespace Go.Proofs.YteinoiicnmemhaaGreatDoor
section
open Go Go.RowKit Go.Sort
theorem nan_nan : isNaN 9221120237041090560 = true := by kernel_rfl
set_option maxRecDepth 100000 in
theorem r1of_any (b : Nat) (w : World) : Calls Tryz.prog 70 #[.int .u64 (b : Int)] w fun e w' => e = .returned (.float .f64 (canon b)) ∧ w = w' := by
  have hf := fun W => from_run (b : Int) W
  have hf2 := fun W => from_run 9221120237041090560 W
  simp only [Int.toNat_natCast] at hf
  cases hb : isNaN b
  · have hr : Hid (canon b = b) := by unfold Hid canon; rw [hb]; rfl
    unfold isNaN at hb
    go_enter Tryz.func70, Tryz.ntmps70
    go_wp2
    go_ret
    exact ⟨by rw [hr.out]; rfl, rfl⟩
  · have hr : Hid (canon b = 9221120237041090560) := by unfold Hid canon; rw [hb]; rfl
    unfold isNaN at hb
    go_enter Tryz.func70, Tryz.ntmps70
    go_wp2
    go_ret
    exact ⟨by rw [hr.out]; rfl, rfl⟩
theorem canon_bits (b : Nat) : canon (bitsOf b) = canon b := by
  unfold canon bitsOf
  cases hb : isNaN b
  · simp [hb]
  · simp [nan_nan]
set_option maxRecDepth 100000 in
theorem r1canon_any (b : Nat) (w : World) : Calls Tryz.prog 31 #[.float .f64 b] w fun e w' => e = .returned (.float .f64 (canon b)) ∧ w = w' := by
  have HB := Lib.hid fun (W : World) => r1bits_any b W
  have HO := Lib.hid fun (W : World) => r1of_any (bitsOf b) W
  rw [canon_bits] at HO
  go_enter Tryz.func31, Tryz.ntmps31
  go_wp2_with (first
    | (go_at_call 71; refine (HB.out _).mono ?_; rintro e1 w1 ⟨rfl, rfl⟩)
    | (go_at_call 70; refine (HO.out _).mono ?_; rintro e2 w2 ⟨rfl, rfl⟩))
  go_ret
  exact ⟨rfl, rfl⟩
end
end Go.Proofs.YteinoiicnmemhaaGreatDoor

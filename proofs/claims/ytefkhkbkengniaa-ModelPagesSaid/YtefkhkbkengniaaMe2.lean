/- Contracts: SameStored. -/
import Derived.Test.YtefkhkbkengniaaMe1
set_option linter.unusedVariables false
set_option linter.unusedSimpArgs false
namespace Go.Proofs.Ytefkhkbkengniaa
open Go.RowKit
set_option maxRecDepth 100000 in
theorem r1bits_any (b : Nat) (w : World) : Calls Try.prog 103 #[.float .f64 b] w fun e w' => e = .returned (.int .u64 (bitsOf b : Int)) ∧ w = w' := by
  have hf := fun W => to_run b W
  cases hb : isNaN b
  · have hr : Hid (bitsOf b = b) := by unfold Hid bitsOf; rw [hb]; rfl
    unfold isNaN at hb
    go_enter Try.func103, Try.ntmps103
    go_wp2
    go_ret
    exact ⟨by rw [hr.out]; rfl, rfl⟩
  · have hr : Hid (bitsOf b = 9221120237041090560) := by unfold Hid bitsOf; rw [hb]; rfl
    unfold isNaN at hb
    go_enter Try.func103, Try.ntmps103
    go_wp2
    go_ret
    exact ⟨by rw [hr.out]; rfl, rfl⟩
set_option maxRecDepth 100000 in
theorem r1same_any (a b : Nat) (w : World) : Calls Try.prog 96 #[.float .f64 a, .float .f64 b] w fun e w' => e = .returned (.bool (sameF a b)) ∧ w = w' := by
  have HB := Lib.hid (fun (b : Nat) W => r1bits_any b W)
  by_cases h : bitsOf a = bitsOf b
  · have hb : ((bitsOf a : Int) == (bitsOf b : Int)) = true := by rw [beq_iff_eq, h]
    have hs : Hid (sameF a b = true) := by unfold Hid sameF; simp [h]
    clear h
    go_enter Try.func96, Try.ntmps96
    go_wp2_with (go_at_call 103; refine (HB.out _ _).mono ?_; rintro e w' ⟨rfl, rfl⟩)
    go_ret
    exact ⟨ret_b (by rw [hs.out]), rfl⟩
  · have hb : ((bitsOf a : Int) == (bitsOf b : Int)) = false := by rw [beq_eq_false_iff_ne]; omega
    have hs : Hid (sameF a b = false) := by unfold Hid sameF; simp [h]
    clear h
    go_enter Try.func96, Try.ntmps96
    go_wp2_with (go_at_call 103; refine (HB.out _ _).mono ?_; rintro e w' ⟨rfl, rfl⟩)
    go_ret
    exact ⟨ret_b (by rw [hs.out]), rfl⟩
set_option maxRecDepth 100000 in
set_option maxHeartbeats 2000000 in
theorem r7sameE_any (x y : EventR) (w : World) : Calls Try.prog 77 #[.agg #[.int .i64 x.id, .string x.type, .string x.data, .float .f64 x.value], .agg #[.int .i64 y.id, .string y.type, .string y.data, .float .f64 y.value]] w fun e w' => e = .returned (.bool (sameE x y)) ∧ Only [] w w' := by
  by_cases h1 : x.id = y.id
  · by_cases h2 : x.type.toList = y.type.toList
    · have b2 : (x.type.toList == y.type.toList) = true := by rw [beq_iff_eq]; exact h2
      by_cases h3 : x.data.toList = y.data.toList
      · have b3 : (x.data.toList == y.data.toList) = true := by rw [beq_iff_eq]; exact h3
        go_enter Try.func77, Try.ntmps77
        go_wp2_with (go_at_call 96; refine (r1same_any _ _ _).mono ?_; rintro e w' ⟨rfl, rfl⟩)
        go_ret
        exact ⟨ret_b (by simp [sameE, h1, h2, h3]), ((Only.refl [] w).alloc _).alloc _⟩
      · have b3 : (x.data.toList == y.data.toList) = false := by rw [beq_eq_false_iff_ne]; exact h3
        go_enter Try.func77, Try.ntmps77
        go_wp2_with (go_at_call 96; refine (r1same_any _ _ _).mono ?_; rintro e w' ⟨rfl, rfl⟩)
        go_ret
        exact ⟨ret_b (by simp [sameE, h1, h2, h3]), ((Only.refl [] w).alloc _).alloc _⟩
    · have b2 : (x.type.toList == y.type.toList) = false := by rw [beq_eq_false_iff_ne]; exact h2
      go_enter Try.func77, Try.ntmps77
      go_wp2_with (go_at_call 96; refine (r1same_any _ _ _).mono ?_; rintro e w' ⟨rfl, rfl⟩)
      go_ret
      exact ⟨ret_b (by simp [sameE, h1, h2]), ((Only.refl [] w).alloc _).alloc _⟩
  · go_enter Try.func77, Try.ntmps77
    go_wp2_with (go_at_call 96; refine (r1same_any _ _ _).mono ?_; rintro e w' ⟨rfl, rfl⟩)
    go_ret
    exact ⟨ret_b (by simp [sameE, h1]), ((Only.refl [] w).alloc _).alloc _⟩
end Go.Proofs.Ytefkhkbkengniaa

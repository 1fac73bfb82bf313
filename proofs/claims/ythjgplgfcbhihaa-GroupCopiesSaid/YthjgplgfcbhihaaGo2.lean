/- SameInts, SameTexts; run: steps of a group; same: two groups that are the same. -/
import Derived.Test.YthjgplgfcbhihaaGo1
import Derived.Test.YthjgplgfcbhihaaGl1
set_option linter.unusedVariables false
set_option linter.unusedSimpArgs false
namespace Go.Proofs.Ythjgplgfcbhihaa
open Go.RowKit Go Go.Sort Go.Lib
set_option maxRecDepth 100000 in
set_option maxHeartbeats 1000000 in
theorem sameI_refl {w : World} {v1 v2 : Value} {l : List Int} (h1 : Slc w 1 v1 l.length (ints l)) (h2 : Slc w 1 v2 l.length (ints l)) :
    Calls Try.prog 42 #[v1, v2] w fun e w' => e = .returned (.bool true) ∧ Only [] w w' := by
  obtain ⟨A1, c1, rfl, _, hm1, hel1⟩ := h1.openI
  obtain ⟨A2, c2, rfl, _, hm2, hel2⟩ := h2.openI
  unfold maxLen at hm1 hm2
  have He1 := Lib.hid hel1
  have He2 := Lib.hid hel2
  clear hel1 hel2 h1 h2
  go_enter Try.func42, Try.ntmps42
  go_wp2
  go_loopw [5] (fun iv wr => ∃ j : Nat, j ≤ l.length ∧ iv = .int .i64 j ∧ Only [] w wr) (fun iv _ => l.length - (intOf iv).toNat)
  case atStart => exact ⟨0, Nat.zero_le _, rfl, Only.refl _ _⟩
  case round =>
    obtain ⟨j, hj, rfl, hO⟩ := hrel
    by_cases hlt : j < l.length
    · obtain ⟨b1, o1, rfl, hb1, q1⟩ := He1.out j hlt
      obtain ⟨b2, o2, rfl, hb2, q2⟩ := He2.out j hlt
      obtain ⟨x, hx⟩ : ∃ x, x = l[j] := ⟨_, rfl⟩
      rw [← hx] at q1 q2
      have d1 := Within.cell (S := []) ((hO.cell hb1 (by simp)).trans q1) (by simp)
      have d2 := Within.cell (S := []) ((hO.cell hb2 (by simp)).trans q2) (by simp)
      clear hx q1 q2
      go_wp2_with fail
      refine wp_region_stages (C := fun W => ∃ p : Within [] wr, W = p.W) [([0, 1, 2, 3, 4, 5, 6, 7, 8, 9], [])] [] (by kernel_rfl) (by kernel_rfl) (by intro c d u a w h; cases d <;> exact h) ⟨⟨_, (Only.refl _ _).drew⟩, rfl⟩ ?_
      refine stagesFirst ?_
      show wpQuiet _ _ _ _ [_, _, _, _, _, _, _, _, _, _] _
      repeat (go_big_quiet_step (fail))
      refine wpQuiet_nil ?_
      refine stagesDone ?_
      go_wp2
      exact ⟨⟨j + 1, hlt, by simp, hO.drew⟩, by simp [intOf]; omega⟩
    · go_wp2
      go_ret
      exact ⟨rfl, hO⟩
set_option maxRecDepth 100000 in
set_option maxHeartbeats 1000000 in
theorem sameT_refl {w : World} {v1 v2 : Value} {l : List ByteArray} (h1 : Slc w 1 v1 l.length (strs l)) (h2 : Slc w 1 v2 l.length (strs l)) :
    Calls Try.prog 41 #[v1, v2] w fun e w' => e = .returned (.bool true) ∧ Only [] w w' := by
  obtain ⟨A1, c1, rfl, _, hm1, hel1⟩ := h1.openS
  obtain ⟨A2, c2, rfl, _, hm2, hel2⟩ := h2.openS
  unfold maxLen at hm1 hm2
  have He1 := Lib.hid hel1
  have He2 := Lib.hid hel2
  clear hel1 hel2 h1 h2
  go_enter Try.func41, Try.ntmps41
  go_wp2
  go_loopw [5] (fun iv wr => ∃ j : Nat, j ≤ l.length ∧ iv = .int .i64 j ∧ Only [] w wr) (fun iv _ => l.length - (intOf iv).toNat)
  case atStart => exact ⟨0, Nat.zero_le _, rfl, Only.refl _ _⟩
  case round =>
    obtain ⟨j, hj, rfl, hO⟩ := hrel
    by_cases hlt : j < l.length
    · obtain ⟨b1, o1, rfl, hb1, q1⟩ := He1.out j hlt
      obtain ⟨b2, o2, rfl, hb2, q2⟩ := He2.out j hlt
      obtain ⟨x, hx⟩ : ∃ x, x = l[j] := ⟨_, rfl⟩
      rw [← hx] at q1 q2
      have d1 := Within.cell (S := []) ((hO.cell hb1 (by simp)).trans q1) (by simp)
      have d2 := Within.cell (S := []) ((hO.cell hb2 (by simp)).trans q2) (by simp)
      clear hx q1 q2
      go_wp2_with fail
      refine wp_region_stages (C := fun W => ∃ p : Within [] wr, W = p.W) [([0, 1, 2, 3, 4, 5, 6, 7, 8, 9], [])] [] (by kernel_rfl) (by kernel_rfl) (by intro c d u a w h; cases d <;> exact h) ⟨⟨_, (Only.refl _ _).drew⟩, rfl⟩ ?_
      refine stagesFirst ?_
      show wpQuiet _ _ _ _ [_, _, _, _, _, _, _, _, _, _] _
      repeat (go_big_quiet_step (fail))
      refine wpQuiet_nil ?_
      refine stagesDone ?_
      go_wp2
      exact ⟨⟨j + 1, hlt, by simp, hO.drew⟩, by simp [intOf]; omega⟩
    · go_wp2
      go_ret
      exact ⟨rfl, hO⟩
end Go.Proofs.Ythjgplgfcbhihaa

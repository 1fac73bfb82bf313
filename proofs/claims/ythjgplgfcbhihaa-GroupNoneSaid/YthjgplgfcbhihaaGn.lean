/- The calls of a nil group; the law GroupNone. -/
import Derived.Test.YthjgplgfcbhihaaGl1
set_option linter.unusedVariables false
set_option linter.unusedSimpArgs false
namespace Go.Proofs.Ythjgplgfcbhihaa
open Go.RowKit Go Go.Sort Go.Lib
section
variable (w : World) (who : ByteArray)
theorem joinN_any : Calls Try.prog 9 #[.pointer none, .string who] w fun e w' => e = .returned (.int .i64 1) ∧ Only [] w w' := by
  go_enter Try.func9, Try.ntmps9
  go_wp2_with (go_at_call 29; refine (noneN_any _).mono ?_; rintro e w1 ⟨rfl, rfl⟩)
  go_ret
  exact ⟨rfl, Only.refl _ _⟩
theorem leaveN_any : Calls Try.prog 26 #[.pointer none, .string who] w fun e w' => e = .returned (.int .i64 1) ∧ Only [] w w' := by
  go_enter Try.func26, Try.ntmps26
  go_wp2_with (go_at_call 29; refine (noneN_any _).mono ?_; rintro e w1 ⟨rfl, rfl⟩)
  go_ret
  exact ⟨rfl, Only.refl _ _⟩
theorem feedN_any (n : Int) : Calls Try.prog 10 #[.pointer none, .int .i64 n] w fun e w' => e = .returned (.int .i64 0) ∧ Only [] w w' := by
  go_enter Try.func10, Try.ntmps10
  go_wp2_with (go_at_call 29; refine (noneN_any _).mono ?_; rintro e w1 ⟨rfl, rfl⟩)
  go_ret
  exact ⟨rfl, Only.refl _ _⟩
theorem replayN_any : Calls Try.prog 21 #[.pointer none] w fun e w' => e = .returned (.int .i64 0) ∧ Only [] w w' := by
  go_enter Try.func21, Try.ntmps21
  go_wp2_with (go_at_call 29; refine (noneN_any _).mono ?_; rintro e w1 ⟨rfl, rfl⟩)
  go_ret
  exact ⟨rfl, Only.refl _ _⟩
theorem ckptN_any : Calls Try.prog 14 #[.pointer none] w fun e w' => e = .returned (.int .i64 0) ∧ Only [] w w' := by
  go_enter Try.func14, Try.ntmps14
  go_wp2_with (go_at_call 29; refine (noneN_any _).mono ?_; rintro e w1 ⟨rfl, rfl⟩)
  go_ret
  exact ⟨rfl, Only.refl _ _⟩
theorem triesN_any (n : Int) : Calls Try.prog 18 #[.pointer none, .int .i64 n] w fun e w' => e = .returned (.int .i64 0) ∧ Only [] w w' := by
  go_enter Try.func18, Try.ntmps18
  go_wp2_with (go_at_call 29; refine (noneN_any _).mono ?_; rintro e w1 ⟨rfl, rfl⟩)
  go_ret
  exact ⟨rfl, Only.refl _ _⟩
theorem parkedN_any : Calls Try.prog 17 #[.pointer none] w fun e w' => e = .returned (.slice none 0 0) ∧ Only [] w w' := by
  go_enter Try.func17, Try.ntmps17
  go_wp2_with (go_at_call 29; refine (noneN_any _).mono ?_; rintro e w1 ⟨rfl, rfl⟩)
  go_ret
  exact ⟨rfl, Only.refl _ _⟩
theorem skippedN_any : Calls Try.prog 27 #[.pointer none] w fun e w' => e = .returned (.slice none 0 0) ∧ Only [] w w' := by
  go_enter Try.func27, Try.ntmps27
  go_wp2_with (go_at_call 29; refine (noneN_any _).mono ?_; rintro e w1 ⟨rfl, rfl⟩)
  go_ret
  exact ⟨rfl, Only.refl _ _⟩
theorem ackedN_any : Calls Try.prog 16 #[.pointer none] w fun e w' => e = .returned (.slice none 0 0) ∧ Only [] w w' := by
  go_enter Try.func16, Try.ntmps16
  go_wp2_with (go_at_call 29; refine (noneN_any _).mono ?_; rintro e w1 ⟨rfl, rfl⟩)
  go_ret
  exact ⟨rfl, Only.refl _ _⟩
theorem waitingN_any : Calls Try.prog 15 #[.pointer none] w fun e w' => e = .returned (.slice none 0 0) ∧ Only [] w w' := by
  go_enter Try.func15, Try.ntmps15
  go_wp2_with (go_at_call 29; refine (noneN_any _).mono ?_; rintro e w1 ⟨rfl, rfl⟩)
  go_ret
  exact ⟨rfl, Only.refl _ _⟩
theorem whoN_any : Calls Try.prog 28 #[.pointer none] w fun e w' => e = .returned (.slice none 0 0) ∧ Only [] w w' := by
  go_enter Try.func28, Try.ntmps28
  go_wp2_with (go_at_call 29; refine (noneN_any _).mono ?_; rintro e w1 ⟨rfl, rfl⟩)
  go_ret
  exact ⟨rfl, Only.refl _ _⟩
theorem flightN_any : Calls Try.prog 12 #[.pointer none, .string who] w fun e w' => e = .returned (.slice none 0 0) ∧ Only [] w w' := by
  go_enter Try.func12, Try.ntmps12
  go_wp2_with (go_at_call 30; refine (isN_any _ _).mono ?_; rintro e w1 ⟨rfl, rfl⟩)
  go_ret
  exact ⟨rfl, Only.refl _ _⟩
set_option maxRecDepth 100000 in
theorem takeN_any (v : Value) : Calls Try.prog 37 #[.pointer none, .string who, v] w fun e w' => e = .returned (.slice none 0 0) ∧ Only [] w w' := by
  go_enter Try.func37, Try.ntmps37
  go_wp2_with (go_at_call 30; refine (isN_any _ _).mono ?_; rintro e w1 ⟨rfl, rfl⟩)
  go_ret
  exact ⟨rfl, Only.refl _ _⟩
set_option maxRecDepth 100000 in
theorem ackN_any (v : Value) : Calls Try.prog 13 #[.pointer none, .string who, v] w fun e w' => e = .returned (.int .i64 0) ∧ Only [] w w' := by
  go_enter Try.func13, Try.ntmps13
  go_wp2_with (go_at_call 37; refine (takeN_any _ _ _).mono ?_; rintro e w1 ⟨rfl, ho1⟩)
  go_loopw [16] (fun iv wr => iv = .int .i64 0 ∧ wr = w1) (fun _ _ => 0)
  case atStart => exact ⟨rfl, rfl⟩
  case round =>
    obtain ⟨rfl, rfl⟩ := hrel
    go_wp2
    go_ret
    exact ⟨rfl, ho1⟩
set_option maxRecDepth 100000 in
theorem nakN_any (v : Value) : Calls Try.prog 20 #[.pointer none, .string who, .int .i64 1, v] w fun e w' => e = .returned (.int .i64 0) ∧ Only [] w w' := by
  go_enter Try.func20, Try.ntmps20
  go_wp2_with (go_at_call 37; refine (takeN_any _ _ _).mono ?_; rintro e w1 ⟨rfl, ho1⟩)
  go_loopw [28] (fun iv wr => iv = .int .i64 0 ∧ wr = w1) (fun _ _ => 0)
  case atStart => exact ⟨rfl, rfl⟩
  case round =>
    obtain ⟨rfl, rfl⟩ := hrel
    go_wp2
    go_ret
    exact ⟨rfl, ho1⟩
theorem lateN_any : Calls Try.prog 19 #[.pointer none] w fun e w' => e = .returned (.int .i64 0) ∧ Only [] w w' := by
  go_enter Try.func19, Try.ntmps19
  go_wp2_with (go_at_call 28; refine (whoN_any _).mono ?_; rintro e w1 ⟨rfl, ho1⟩)
  go_loopw [3, 9] (fun nv iv wr => nv = .int .i64 0 ∧ iv = .int .i64 0 ∧ wr = w1) (fun _ _ _ => 0)
  case atStart => exact ⟨rfl, rfl, rfl⟩
  case round =>
    obtain ⟨rfl, rfl, rfl⟩ := hrel
    go_wp2
    go_ret
    exact ⟨rfl, ho1⟩
theorem copyN_any : Calls Try.prog 24 #[.pointer none] w fun e w' => e = .returned (.pointer none) ∧ Only [] w w' := by
  go_enter Try.func24, Try.ntmps24
  go_wp2
  go_ret
  exact ⟨rfl, Only.refl _ _⟩
set_option maxRecDepth 100000 in
theorem nextN_any : Calls Try.prog 11 #[.pointer none, .string who] w fun e w' => e = .returned (.tuple #[.int .i64 0, .bool false]) ∧ Only [] w w' := by
  go_enter Try.func11, Try.ntmps11
  go_wp2_with fail
  refine wp_region_stages (C := fun W => ∃ p : Kept w [] w, W = p.W) [([0, 1], [2]), ([3, 4, 5, 6, 7, 8, 9, 10, 11, 12, 13, 14, 15, 16, 17, 18, 19, 20, 21, 22, 23, 24, 25, 26], [])] [] (by kernel_rfl) (by kernel_rfl) (by intro c d u a w h; cases d <;> exact h) ⟨⟨_, (Keeps.refl _ _ _).drew⟩, rfl⟩ ?_
  refine stagesFirst ?_
  show wpQuiet _ _ _ _ [_, _] _
  repeat (go_big_quiet_step (fail))
  refine wpQuiet_nil ?_
  show wpList _ _ _ [_] _ _
  go_wp2_with (go_at_call 30; refine (isN_any _ _).mono ?_; rintro e w1 ⟨rfl, rfl⟩)
  refine check_kept ((Keeps.refl _ _ _).drew) ?_
  refine stagesNext ?_
  show wpQuiet _ _ _ _ [_, _, _, _, _, _, _, _, _, _, _, _, _, _, _, _, _, _, _, _, _, _, _, _] _
  try go_frame
  repeat (go_big_quiet_step (fail))
  refine wpQuiet_nil ?_
  refine stagesDone ?_
  go_wp2
  go_ret2
  exact ⟨rfl, (Only.refl _ _).drew⟩
end
set_option maxRecDepth 100000 in
set_option maxHeartbeats 2000000 in
theorem noneW (n : Int) (hn : (Lit.int .i64 n).wf = true) (who : ByteArray) (hwho : who.size ≤ maxLen) (w : World) :
    Calls Try.prog 6 #[.int .i64 n, .string who] w fun e w' => e = .returned (.bool true) ∧ Only [] w w' := by
  have HAl := Lib.hid (fun w => alive_any w)
  by_cases hs : 100 < who.size
  · go_enter Try.func6, Try.ntmps6
    go_wp2_with (go_at_call 7; refine (HAl.out _).mono ?_; rintro e w1 ⟨rfl, ho1⟩)
    go_ret
    exact ⟨rfl, ho1⟩
  · go_enter Try.func6, Try.ntmps6
    go_wp2_with (first
      | (go_at_call 11; refine (nextN_any _ _).mono ?_; rintro e w1 ⟨rfl, ho1⟩)
      | (go_at_call 7; refine (HAl.out _).mono ?_; rintro e w2 ⟨rfl, ho2⟩)
      | (go_at_call 9; refine (joinN_any _ _).mono ?_; rintro e w3 ⟨rfl, ho3⟩)
      | (go_at_call 26; refine (leaveN_any _ _).mono ?_; rintro e w4 ⟨rfl, ho4⟩)
      | (go_at_call 10; refine (feedN_any _ _).mono ?_; rintro e w5 ⟨rfl, ho5⟩)
      | (go_at_call 13; refine (ackN_any _ _ _).mono ?_; rintro e w6 ⟨rfl, ho6⟩)
      | (go_at_call 20; refine (nakN_any _ _ _).mono ?_; rintro e w7 ⟨rfl, ho7⟩)
      | (go_at_call 19; refine (lateN_any _).mono ?_; rintro e w8 ⟨rfl, ho8⟩)
      | (go_at_call 21; refine (replayN_any _).mono ?_; rintro e w9 ⟨rfl, ho9⟩)
      | (go_at_call 14; refine (ckptN_any _).mono ?_; rintro e w10 ⟨rfl, ho10⟩)
      | (go_at_call 18; refine (triesN_any _ _).mono ?_; rintro e w11 ⟨rfl, ho11⟩)
      | (go_at_call 12; refine (flightN_any _ _).mono ?_; rintro e w12 ⟨rfl, ho12⟩)
      | (go_at_call 17; refine (parkedN_any _).mono ?_; rintro e w13 ⟨rfl, ho13⟩)
      | (go_at_call 27; refine (skippedN_any _).mono ?_; rintro e w14 ⟨rfl, ho14⟩)
      | (go_at_call 16; refine (ackedN_any _).mono ?_; rintro e w15 ⟨rfl, ho15⟩)
      | (go_at_call 15; refine (waitingN_any _).mono ?_; rintro e w16 ⟨rfl, ho16⟩)
      | (go_at_call 28; refine (whoN_any _).mono ?_; rintro e w17 ⟨rfl, ho17⟩)
      | (go_at_call 24; refine (copyN_any _).mono ?_; rintro e w18 ⟨rfl, ho18⟩))
    go_ret
    exact ⟨rfl, ((ho1.trans ho2).trans ho3).trans (((ho4.trans ho5).alloc _).trans (((ho6.alloc _).trans ho7).trans (((ho8.trans ho9).trans (ho10.trans ho11)).trans (((ho12.trans ho13).trans (ho14.trans ho15)).trans ((ho16.trans ho17).trans ho18)))))⟩
end Go.Proofs.Ythjgplgfcbhihaa

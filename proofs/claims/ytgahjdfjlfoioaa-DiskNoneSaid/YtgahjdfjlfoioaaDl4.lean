/- DiskNone: the walk. -/
import Derived.Test.YtgahjdfjlfoioaaDl1
import Derived.Test.YtgahjdfjlfoioaaDk14
set_option linter.unusedVariables false
namespace Go.Proofs.Ytgahjdfjlfoioaa
open Go.RowKit Go.Sort
set_option maxRecDepth 100000 in
set_option maxHeartbeats 2000000 in
theorem noneW (a : ByteArray) (ma : a.size ≤ maxLen) (b : ByteArray) (mb : b.size ≤ maxLen) (n : Int) (hn : (Lit.int .i64 n).wf = true) (w : World) :
    Calls Try.prog 8 #[.string a, .string b, .int .i64 n] w fun e w' => e = .returned (.bool true) ∧ Only [] w w' := by
  unfold maxLen at ma mb
  by_cases hs : 300 < wrap64 (↑a.size + ↑b.size)
  · go_enter Try.func8, Try.ntmps8
    go_wp2_with (first
        | (go_at_call 9; refine (alive_any _).mono ?_; rintro e w1 ⟨rfl, hal⟩)
        | (go_at_call 19; refine (restore_nil _).mono ?_; rintro e w1 ⟨rfl, rfl⟩)
        | (go_at_call 15; refine (arm_nil _ _).mono ?_; rintro e w1 ⟨rfl, rfl⟩)
        | (go_at_call 30; refine (room_nil _ _).mono ?_; rintro e w1 ⟨rfl, rfl⟩)
        | (go_at_call 20; refine (read_nil _ _ _ _).mono ?_; rintro e w1 ⟨rfl, h1⟩)
        | (go_at_call 21; refine (size_nil _ _).mono ?_; rintro e w1 ⟨rfl, h2⟩)
        | (go_at_call 11; refine (append_nil _ _ _).mono ?_; rintro e w1 ⟨rfl, h3⟩)
        | (go_at_call 14; refine (sync_nil _ _).mono ?_; rintro e w1 ⟨rfl, h4⟩)
        | (go_at_call 31; refine (truncate_nil _ _ _).mono ?_; rintro e w1 ⟨rfl, h5⟩)
        | (go_at_call 24; refine (rename_nil _ _ _).mono ?_; rintro e w1 ⟨rfl, h6⟩)
        | (go_at_call 13; refine (remove_nil _ _).mono ?_; rintro e w1 ⟨rfl, h7⟩)
        | (go_at_call 23; refine (list_nil _ _).mono ?_; rintro e w1 ⟨rfl, h8⟩)
        | (go_at_call 18; refine (crash_nil _ _).mono ?_; rintro e w1 ⟨rfl, rfl⟩)
        | (go_at_call 12; refine (used_nil _).mono ?_; rintro e w1 ⟨rfl, rfl⟩)
        | (go_at_call 17; refine (unsynced_nil _ _).mono ?_; rintro e w1 ⟨rfl, rfl⟩)
        | (go_at_call 16; refine (on_nil _).mono ?_; rintro e w1 ⟨rfl, rfl⟩)
        | (go_at_call 27; refine (twin_nil _).mono ?_; rintro e w1 ⟨rfl, rfl⟩))
    go_ret
    exact ⟨rfl, hal⟩
  · go_enter Try.func8, Try.ntmps8
    go_wp2_with (first
        | (go_at_call 9; refine (alive_any _).mono ?_; rintro e w1 ⟨rfl, hal⟩)
        | (go_at_call 19; refine (restore_nil _).mono ?_; rintro e w1 ⟨rfl, rfl⟩)
        | (go_at_call 15; refine (arm_nil _ _).mono ?_; rintro e w1 ⟨rfl, rfl⟩)
        | (go_at_call 30; refine (room_nil _ _).mono ?_; rintro e w1 ⟨rfl, rfl⟩)
        | (go_at_call 20; refine (read_nil _ _ _ _).mono ?_; rintro e w1 ⟨rfl, h1⟩)
        | (go_at_call 21; refine (size_nil _ _).mono ?_; rintro e w1 ⟨rfl, h2⟩)
        | (go_at_call 11; refine (append_nil _ _ _).mono ?_; rintro e w1 ⟨rfl, h3⟩)
        | (go_at_call 14; refine (sync_nil _ _).mono ?_; rintro e w1 ⟨rfl, h4⟩)
        | (go_at_call 31; refine (truncate_nil _ _ _).mono ?_; rintro e w1 ⟨rfl, h5⟩)
        | (go_at_call 24; refine (rename_nil _ _ _).mono ?_; rintro e w1 ⟨rfl, h6⟩)
        | (go_at_call 13; refine (remove_nil _ _).mono ?_; rintro e w1 ⟨rfl, h7⟩)
        | (go_at_call 23; refine (list_nil _ _).mono ?_; rintro e w1 ⟨rfl, h8⟩)
        | (go_at_call 18; refine (crash_nil _ _).mono ?_; rintro e w1 ⟨rfl, rfl⟩)
        | (go_at_call 12; refine (used_nil _).mono ?_; rintro e w1 ⟨rfl, rfl⟩)
        | (go_at_call 17; refine (unsynced_nil _ _).mono ?_; rintro e w1 ⟨rfl, rfl⟩)
        | (go_at_call 16; refine (on_nil _).mono ?_; rintro e w1 ⟨rfl, rfl⟩)
        | (go_at_call 27; refine (twin_nil _).mono ?_; rintro e w1 ⟨rfl, rfl⟩))
    go_ret
    exact ⟨rfl, ((((((((h1.trans h2).trans hal).trans h3).trans h4).trans h5).trans h6).trans h7).trans h8).alloc _⟩
end Go.Proofs.Ytgahjdfjlfoioaa

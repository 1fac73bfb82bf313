/- ModelNone: the walk. -/
import Derived.Test.YtefkhkbkengniaaMl2
set_option linter.unusedVariables false
set_option linter.unusedSimpArgs false
namespace Go.Proofs.Ytefkhkbkengniaa
open Go.RowKit Go.Sort
theorem fldAns (W : World) (a b c d : Value) : Sem.run Try.prog (Instr.field 29 (.agg #[a, b, c, d]) 0) W = .ok a W := by kernel_rfl
set_option maxRecDepth 100000 in
set_option maxHeartbeats 4000000 in
theorem none_go (w : World) (c : Cmd) (ev : Value) (n : ByteArray) (hc : CmdOk c) (he : Slc w 4 ev c.events.length (c.events.flatMap EventR.cells)) (hn : n.size ≤ maxLen) :
    Calls Try.prog 9 #[c.val ev, .string n] w fun e w' => e = .returned (.bool true) ∧ Only [] w w' := by
  obtain ⟨A, cap, rfl, hnc, hcm, hel⟩ := he.openE EventR.cells (fun _ => rfl)
  have HS := Lib.hid (fun (W : World) (hw : Only [] w W) => small_any (w := W) hc (he.only0 hw))
  have HD := Lib.hid (fun W => do_nil c (.slice A c.events.length cap) W)
  unfold maxLen at hn
  unfold Cmd.val at HS HD ⊢
  unfold Ans.val at HD
  have HA := Lib.hid (fun W => atN_any n 0 W)
  unfold stored0 at HA
  clear hel
  have hsf := stF
  have hfa := fldAns
  by_cases h100 : n.size > 100
  · go_enter Try.func9, Try.ntmps9
    go_wp2_with (first
      | (go_at_call 31; refine (HS.out _ ((Only.refl _ _).alloc _)).mono ?_; rintro e w1 ⟨⟨bb, rfl, _⟩, ho1⟩; cases bb)
      | (go_at_call 11; refine (alive_any _).mono ?_; rintro e w5 ⟨rfl, ho5⟩))
    all_goals
      go_ret
      exact ⟨rfl, (((Only.refl [] w).alloc _).trans ho1).trans ho5⟩
  · go_enter Try.func9, Try.ntmps9
    go_wp2_with (first
      | (go_at_call 31; refine (HS.out _ ((Only.refl _ _).alloc _)).mono ?_; rintro e w1 ⟨⟨bb, rfl, _⟩, ho1⟩; cases bb)
      | (go_at_call 11; refine (alive_any _).mono ?_; rintro e w5 ⟨rfl, ho5⟩
         try (have hbx := fun i => (ho5.blk (((Only.refl [] w4).alloc _).blk (ho4.blk (((Only.refl [] w3).alloc _).blk (ho3.blk (((Only.refl [] w2).alloc _).blk (ho2.blk (ho1.blk (Blk.new w 35 _) (by simp)) (by simp)) (by simp)) (by simp)) (by simp)) (by simp)) (by simp)) (by simp)).cell i))
      | (go_at_call 27; refine (readN_any _ _ _ _ _).mono ?_; rintro e w2 ⟨rfl, ho2⟩)
      | (go_at_call 32; refine (allN_any _ _ _ _).mono ?_; rintro e w3 ⟨rfl, ho3⟩)
      | (go_at_call 33; refine (HA.out _).mono ?_; rintro e w4 ⟨rfl, ho4⟩)
      | (go_at_call 13; refine (HD.out _).mono ?_; rintro e w6 ⟨rfl, ho6⟩)
      | (go_at_call 14; refine (lenN_any _).mono ?_; rintro e w7 ⟨rfl, rfl⟩)
      | (go_at_call 21; refine (doneN_any _).mono ?_; rintro e w7 ⟨rfl, rfl⟩)
      | (go_at_call 22; refine (nowN_any _).mono ?_; rintro e w7 ⟨rfl, rfl⟩)
      | (go_at_call 20; refine (countN_any _ _).mono ?_; rintro e w8 ⟨rfl, ho8⟩)
      | (go_at_call 28; refine (floorN_any _ _).mono ?_; rintro e w9 ⟨rfl, rfl⟩)
      | (go_at_call 34; refine (streamsN_any _).mono ?_; rintro e w10 ⟨rfl, ho10⟩)
      | (go_at_call 19; refine (everyN_any _).mono ?_; rintro e w11 ⟨rfl, rfl⟩)
      | (go_at_call 15; refine (deletedN_any _ _).mono ?_; rintro e w12 ⟨rfl, ho12⟩)
      | (go_at_call 35; refine (metaOfN_any _ _).mono ?_; rintro e w13 ⟨rfl, ho13⟩)
      | (go_at_call 24; refine (seenN_any _ _).mono ?_; rintro e w14 ⟨rfl, ho14⟩)
      | (go_at_call 29; refine (copyN_any _).mono ?_; rintro e w15 ⟨rfl, rfl⟩))
    · go_ret
      exact ⟨rfl, (((Only.refl [] w).alloc _).trans ho1).trans ho5⟩
    · go_ret
      exact ⟨rfl, (((((((((((((((Only.refl [] w).alloc _).trans ho1).trans ho2).alloc _).trans ho3).alloc _).trans ho4).alloc _).trans ho5).trans ho6).trans ho8).trans ho10).trans ho12).trans ho13).trans ho14⟩
/-- What the row asks for. -/
theorem noneW (o : CmdV) (n : ByteArray) (hn : n.size ≤ maxLen) (W : World) (ho : o.Ok W) :
    Calls Try.prog 9 #[o.c.val o.ev, .string n] W fun e W' => e = .returned (.bool true) ∧ Only [] W W' :=
  none_go W o.c o.ev n ho.ok ho.slc hn
end Go.Proofs.Ytefkhkbkengniaa

/- Contracts: spare, Check. -/
import Derived.Test.YtefkhkbkengniaaMc2
set_option linter.unusedVariables false
set_option linter.unusedSimpArgs false
namespace Go.Proofs.Ytefkhkbkengniaa
open Go.RowKit
theorem size0 {s : ByteArray} : s.size = 0 ↔ s.toList = [] := by
  rw [ByteArray.toList_eq]
  simp [← ByteArray.size_data]
theorem mt_zero {a b d : Int} : (⟨a, b, d⟩ : MetaR) = MetaR.zero ↔ a = 0 ∧ b = 0 ∧ d = 0 := by simp [MetaR.zero]
theorem decP {p : Prop} [Decidable p] (h : p) : decide p = true := decide_eq_true h
theorem decN {p : Prop} [Decidable p] (h : ¬p) : decide p = false := decide_eq_false h
set_option maxHeartbeats 1000000 in
theorem spare_any (c : Cmd) (A : Option Addr) (cap : Nat) (w : World) (hl : c.events.length ≤ 9223372036854775807) (hk : 1 ≤ c.kind ∧ c.kind ≤ 5) :
    Calls Try.prog 68 #[c.val (.slice A c.events.length cap)] w fun e w' => e = .returned (.bool c.spare) ∧ Only [] w w' := by
  obtain ⟨kind, time, stream, ex, l, a, b, d⟩ := c
  simp only [Cmd.val] at hl hk ⊢
  have hk' : kind = 1 ∨ kind = 2 ∨ kind = 3 ∨ kind = 4 ∨ kind = 5 := by omega
  rcases hk' with rfl | rfl | rfl | rfl | rfl
  all_goals
    go_enter Try.func68, Try.ntmps68
    go_wp2
    all_goals
      go_ret
      refine ⟨?_, (Only.refl [] w).alloc _⟩
      first
        | (refine ret_b ?_; simp_all [Cmd.spare, mt_zero]; done)
        | (simp_all [Cmd.spare, mt_zero]; done)
structure CmdOk (c : Cmd) : Prop where
  stream : c.stream.size ≤ maxLen
  evs : EvsOk c.events
set_option maxHeartbeats 2000000 in
theorem check_any (c : Cmd) (v : Value) (w : World) (hs : Slc w 4 v c.events.length (c.events.flatMap EventR.cells)) (ho : CmdOk c) :
    Calls Try.prog 36 #[c.val v] w fun e w' => e = .returned (.int .i64 c.check) ∧ Only [] w w' := by
  obtain ⟨A, cap, rfl, hnc, hcm, hel⟩ := hs.openE EventR.cells (fun _ => rfl)
  clear hel
  obtain ⟨ho1, ho2⟩ := ho
  obtain ⟨kind, time, stream, ex, l, a, b, d⟩ := c
  have hl : l.length ≤ 9223372036854775807 := by unfold maxLen at hcm; exact Nat.le_trans hnc (by omega)
  have hl1 : Only [] w (w.alloc (.cells #[.int .i64 kind, .int .i64 time, .string stream, .int .i64 ex, .slice A l.length cap, .int .i64 a, .int .i64 b, .int .i64 d] 35)) := (Only.refl [] w).alloc _
  simp only [Cmd.val] at hs ho1 ho2 ⊢
  clear hcm hnc
  by_cases hk : 1 ≤ kind ∧ kind ≤ 5
  · have hk' : kind = 1 ∨ kind = 2 ∨ kind = 3 ∨ kind = 4 ∨ kind = 5 := by omega
    rcases hk' with rfl | rfl | rfl | rfl | rfl
    all_goals
      have HV := Lib.hid (events_any (hs.only0 hl1) ho2)
      have HP := fun w => Lib.hid (spare_any ⟨_, time, stream, ex, l, a, b, d⟩ A cap w hl hk)
      have HL := Lib.hid hl1
      clear hk hl1 hs ho2
      go_enter Try.func36, Try.ntmps36
      go_wp2_with (first
        | (go_at_call 64; refine (within_any _ _).mono ?_; rintro e w' ⟨rfl, rfl⟩)
        | (go_at_call 46; refine (stream_any _ _ ho1).mono ?_; rintro e w' ⟨rfl, rfl⟩)
        | (go_at_call 65; refine HV.out.mono ?_; rintro e w1 ⟨rfl, hw1⟩; have hq1 := fun i => (hw1.blk (Blk.new w 35 _) (by simp)).cell i)
        | (go_at_call 66; refine (expects_any _ _).mono ?_; rintro e w' ⟨rfl, rfl⟩)
        | (go_at_call 67; refine (validMeta_any ⟨a, b, d⟩ _).mono ?_; rintro e w2 ⟨rfl, hw2⟩; have hq2 := fun i => (hw2.blk (Blk.new w 35 _) (by simp)).cell i)
        | (go_at_call 68; refine (HP _).out.mono ?_; rintro e w3 ⟨rfl, hw3⟩))
      all_goals
        go_ret
        refine ⟨?_, by first | exact HL.out | exact HL.out.trans hw1 | exact HL.out.trans hw2 | exact HL.out.trans hw3 | exact (HL.out.trans hw1).trans hw3 | exact (HL.out.trans hw2).trans hw3⟩
        try clear hq1
        try clear hq2
        try clear hw3
        try clear hw2
        try clear hw1
        clear HV HP HL
        first
          | (refine ret_i ?_; simp_all [Cmd.check]; done)
          | (simp_all [Cmd.check]; done)
  · have HL := Lib.hid hl1
    clear hl1 hs ho2
    go_enter Try.func36, Try.ntmps36
    have hck : (Cmd.mk kind time stream ex l ⟨a, b, d⟩).check = 1 := by unfold Cmd.check; rw [if_pos (by simp only []; omega)]
    rw [hck]
    clear hck
    go_wp2
    all_goals
      go_ret
      exact ⟨rfl, HL.out⟩
end Go.Proofs.Ytefkhkbkengniaa

/- States beside each other; the names of a state's map; contract: Copy. -/
import Derived.Test.YtefkhkbkengniaaMcp2
import Derived.Test.YtefkhkbkengniaaMl2
set_option linter.unusedVariables false
set_option linter.unusedSimpArgs false
namespace Go.Proofs.Ytefkhkbkengniaa
open Go.RowKit Go Go.Sort
/-- The names that a state's map holds: few, and short. -/
structure MS.Few (s : MS) (N : Nat) : Prop where
  len : s.m.length ≤ N
  short : ∀ p ∈ s.m, p.1.size ≤ 60
theorem few_new : MS.new.Few 0 := ⟨Nat.le_refl _, fun p hp => by cases hp⟩
theorem few_do {s : MS} {N : Nat} (h : s.Few N) (c : Cmd) : (s.do c).2.Few (N + 1) := by
  have hbase : ∀ t : MS, t.m = s.m → t.Few (N + 1) := fun t ht => ⟨by rw [ht]; exact Nat.le_succ_of_le h.len, by rw [ht]; exact h.short⟩
  by_cases hk : c.check = 0
  · by_cases hq : c.kind = 4 ∨ c.kind = 5
    · have e : (s.do c).2 = s.tick c.time := by
        unfold MS.do
        rw [if_neg (by simp [hk])]
        dsimp only
        rw [if_pos hq]
      rw [e]
      exact hbase _ rfl
    · have hn : nameOk c.stream = true := by
        unfold Cmd.check at hk
        split at hk
        · cases hk
        · rename_i q1
          split at hk
          · cases hk
          · rename_i q2
            cases hb : nameOk c.stream with
            | true => rfl
            | false => exact absurd ⟨by omega, hb⟩ q2
      have hsz : c.stream.size ≤ 60 := by
        simp [nameOk] at hn
        exact hn.1.2
      have hput : ∀ y, (aput s.m c.stream y).length ≤ N + 1 ∧ ∀ p ∈ aput s.m c.stream y, p.1.size ≤ 60 := fun y => by
        refine ⟨?_, fun p hp => ?_⟩
        · have := h.len
          rw [length_aput]
          split <;> omega
        · rcases aput_mem hp with rfl | hp
          · exact hsz
          · exact h.short p hp
      rcases do_shape s c with ⟨h1, _⟩ | ⟨y, h1, _⟩
      · exact hbase _ h1
      · exact ⟨by rw [h1]; exact (hput y).1, by rw [h1]; exact (hput y).2⟩
  · have e : (s.do c).2 = s := by
      unfold MS.do
      rw [if_pos (by simpa using hk)]
    rw [e]
    exact hbase _ rfl
theorem few_run : ∀ (l : List CmdV) (s : MS) (N : Nat), s.Few N → (runS s l).Few (N + l.length)
  | [], _, _, h => h
  | x :: l, s, N, h => by
    have := few_run l (s.do x.c).2 (N + 1) (few_do h x.c)
    rw [List.length_cons, show N + (l.length + 1) = N + 1 + l.length by omega]
    exact this
theorem ok_run : ∀ (l : List CmdV) (s : MS) (N : Nat), s.Ok N → (runS s l).Ok (N + l.length)
  | [], _, _, h => h
  | x :: l, s, N, h => by
    have := ok_run l (s.do x.c).2 (N + 1) (MS.do_ok h x.c)
    rw [List.length_cons, show N + (l.length + 1) = N + 1 + l.length by omega]
    exact this
section
variable {w w' : World} {M M' S : List Nat} {sb mb : Nat} {av : Value} {pf : ByteArray → Value} {s : MS}
/-- A state beside what turned; more blocks may turn from now on. -/
theorem StAt.beside (h : StAt w M sb mb av pf s) (k : Only S w w') (hS : ∀ g ∈ S, g ∈ M) (hd : ∀ g ∈ hM sb mb av, g ∉ S) (hM' : ∀ g ∈ M', g ∈ M ∨ w.heap.size ≤ g) (hin : ∀ g ∈ M, g ∈ M') (hlt : ∀ g ∈ M', g < w'.heap.size) : StAt w' M' sb mb av pf s := by
  refine ⟨k.blk h.blk (hd sb (by simp [hM])), own_only h.own k (fun g hg => hd g (by simp [hM, hg])), h.map.only k (hd mb (by simp [hM])), fun n x hx => ?_, ⟨hin _ h.inM.1, hin _ h.inM.2.1, fun g hg => hin _ (h.inM.2.2 g hg)⟩, hlt⟩
  exact ((h.pl n x hx).ext hM').only k (fun g hg => hin g (hS g hg))
theorem mem_range_not {M : List Nat} {n g : Nat} : g ∈ (List.range n).filter (fun g => decide (g ∉ M)) ↔ g < n ∧ g ∉ M := by simp
/-- Commands done to one state: just its own blocks turn. -/
theorem run_alone {a : World} {N : Nat} {v : Value} {l : List CmdV} (h : StAt w M sb mb av pf s) (ha : Only [] a w) (hb : ∀ g ∈ M, a.heap.size ≤ g) (hok : s.Ok N) (hinv : s.Inv) (hc : CmdsAt a w v l) (hN : N + l.length ≤ 100000) :
    Calls Try.prog 16 #[.pointer (some ⟨sb, 0, none⟩), v] w fun e w' => e = .returned (.tuple #[]) ∧ Only [] a w' ∧ ∃ M' av' pf', StAt w' M' sb mb av' pf' (runS s l) ∧ (∀ g ∈ M', a.heap.size ≤ g ∧ (g ∈ M ∨ w.heap.size ≤ g)) ∧ (∀ g ∈ M, g ∉ hM sb mb av → g ∈ M' ∧ g ∉ hM sb mb av') ∧ ∃ S, Only S w w' ∧ ∀ g ∈ S, g ∈ hM sb mb av := by
  have hh : HasS a w (M.filter (fun g => decide (g ∉ hM sb mb av))) ((List.range w.heap.size).filter (fun g => decide (g ∉ M))) sb mb s N :=
    ⟨ha, ⟨M, av, pf, h, fun g hg => ⟨hb g hg, fun q => (mem_range_not.1 q).2 hg⟩, fun g hg => (List.mem_filter.1 hg).1, fun g hg q => by
      have := (List.mem_filter.1 q).2
      simp [hg] at this⟩, fun g hg => (mem_range_not.1 hg).1, hok, hinv⟩
  refine (run_any hh hc hN).mono ?_
  rintro e w' ⟨rfl, h1, h2⟩
  obtain ⟨M', av', pf', q1, q2, q3, q4⟩ := h1.st
  refine ⟨rfl, h1.only, M', av', pf', q1, fun g hg => ⟨(q2 g hg).1, ?_⟩, fun g hg hn => ?_, ?_⟩
  · by_cases hl : g < w.heap.size
    · by_cases hm : g ∈ M
      · exact .inl hm
      · exact absurd (mem_range_not.2 ⟨hl, hm⟩) (q2 g hg).2
    · exact .inr (by omega)
  · have hr : g ∈ M.filter (fun g => decide (g ∉ hM sb mb av)) := List.mem_filter.2 ⟨hg, by simpa using hn⟩
    exact ⟨q3 g hr, fun q => q4 g q hr⟩
  · obtain ⟨S, k1, k2⟩ := h2
    refine ⟨S.filter (fun g => decide (g < w.heap.size)), ⟨k1.os, k1.tape, k1.output, k1.size, fun g hl hn => k1.block g hl (fun q => hn (List.mem_filter.2 ⟨q, by simpa using hl⟩))⟩, fun g hg => ?_⟩
    obtain ⟨g1, g2⟩ := List.mem_filter.1 hg
    have g3 := (k2 g g1).2
    have gl : g < w.heap.size := by simpa using g2
    have gm : g ∈ M := by
      by_cases hm : g ∈ M
      · exact hm
      · exact absurd (List.mem_append_right _ (mem_range_not.2 ⟨gl, hm⟩)) g3
    by_cases hh : g ∈ hM sb mb av
    · exact hh
    · exact absurd (List.mem_append_left _ (List.mem_filter.2 ⟨gm, by simpa using hh⟩)) g3
theorem cloneMap_any {b : Nat} {kv : List (ByteArray × Value)} (h : MapIs Value.string w b kv) :
    Calls Try.prog 51 #[.map (some b)] w fun e w' => ∃ o, e = .returned (.map (some w.heap.size)) ∧ w' = w.alloc o ∧ MapIs Value.string w' w.heap.size kv := by
  obtain ⟨es, clock, hb, hs, hm⟩ := h
  refine (AnyW.maps_Clone Try.cloneM b es clock w hb).mono fun e w' ⟨he, hw⟩ => ?_
  subst hw
  exact ⟨_, he, rfl, es, clock, heap_alloc_new w _, hs, hm⟩
set_option maxRecDepth 100000 in
set_option maxHeartbeats 2000000 in
theorem copy_any (h : StAt w M sb mb av pf s) (hs : s.all.length ≤ 1000000) :
    Calls Try.prog 29 #[.pointer (some ⟨sb, 0, none⟩)] w fun e w' => ∃ sb' mb' av', e = .returned (.pointer (some ⟨sb', 0, none⟩)) ∧ StAt w' (hM sb' mb' av' ++ M) sb' mb' av' pf s ∧ (∀ g ∈ hM sb' mb' av', w.heap.size ≤ g ∧ g < w'.heap.size) ∧ Only [] w w' := by
  have hsl := (Slc.of_own h.own).1
  obtain ⟨A2, cap2, rfl, hnc2, hcm2, hel2⟩ := h.cell
  unfold maxLen at hcm2
  have hlb := h.blk.lt
  have c0 : w.cell? ⟨sb, 0, none⟩ = some (.slice A2 s.all.length cap2) := h.blk.cell 0
  have c1 : w.cell? ⟨sb, 1, none⟩ = some (.map (some mb)) := h.blk.cell 1
  have c2 : w.cell? ⟨sb, 2, none⟩ = some (.int .i64 s.done) := h.blk.cell 2
  have c3 : w.cell? ⟨sb, 3, none⟩ = some (.int .i64 s.now) := h.blk.cell 3
  have k0 := Kept.cell (a := w) (R := []) c0 (.inl hlb)
  have k1 := Kept.cell (a := w) (R := []) c1 (.inl hlb)
  have k2 := Kept.cell (a := w) (R := []) c2 (.inl hlb)
  have k3 := Kept.cell (a := w) (R := []) c3 (.inl hlb)
  have HC := Lib.hid (fun (W : World) (hW : Only [] w W) => cloneS_any (hsl.only0 hW) (by omega))
  have HM := Lib.hid (fun (W : World) (hW : Only [] w W) => cloneMap_any (h.map.only hW (by simp)))
  clear hel2 c0 c1 c2 c3 hsl
  go_enter Try.func29, Try.ntmps29
  go_wp2_with fail
  refine wp_region_stages (C := fun W => ∃ p : Kept w [] w, W = p.W) [([0, 1, 2, 3, 5, 6, 7, 8, 10, 11, 12, 13, 14, 15, 16, 17], [4, 9, 18, 19])] [20] (by kernel_rfl) (by kernel_rfl) (by intro c d u a w h; cases d <;> exact h) ⟨⟨_, (Keeps.refl _ _ _).drew⟩, rfl⟩ ?_
  refine stagesFirst ?_
  show wpQuiet _ _ _ _ [_, _, _, _, _, _, _, _, _, _, _, _, _, _, _, _] _
  repeat (go_big_quiet_step (fail))
  refine wpQuiet_nil ?_
  show wpList _ _ _ [_] _ _
  go_wp2_with (go_at_call 44; refine (HC.out _ (Only.refl _ _).drew).mono ?_; rintro e w2 ⟨v2, rfl, hown2, ho2⟩; obtain ⟨A3, cap3, rfl, _, _⟩ := own_form hown2)
  have hK : Keeps w [] w w2 := (Keeps.refl _ _ _).drew.then0 ho2
  refine check_kept hK ?_
  show wpList _ _ _ [_] _ _
  go_wp2_with (go_at_call 51; refine (HM.out _ ((Only.refl _ _).drew.trans ho2)).mono ?_; rintro e w3 ⟨o3, rfl, rfl, hm3⟩)
  refine check_kept (hK.alloc _) ?_
  show wpList _ _ _ [_] _ _
  go_wp2_with fail
  refine check_kept (hK.alloc _) ?_
  show wpList _ _ _ [_] _ _
  go_wp2_with fail
  refine check_kept ((hK.alloc _).alloc _) ?_
  refine stagesEnd ?_
  show wpList _ _ _ [_] _ _
  go_wp2
  go_ret
  have hO2 : Only [] w w2 := (Only.refl [] w).drew.trans ho2
  have hO3 : Only [] w (w2.alloc o3) := hO2.alloc o3
  have hz2 : w.heap.size ≤ w2.heap.size := hO2.size
  have hown3 : ((w2.alloc o3).alloc (.cells #[.slice A3 s.all.length cap3, .map (some w2.heap.size), .int .i64 s.done, .int .i64 s.now] 75)).ownsRow w.heap.size 48 8 (.slice A3 s.all.length cap3) s.all.length (s.all.flatMap StoredR.cells) :=
    own_only hown2 (((Only.refl [] w2).alloc _).alloc _) (by simp)
  have hfr : ∀ g ∈ hM (w2.heap.size + 1) w2.heap.size (.slice A3 s.all.length cap3), w.heap.size ≤ g ∧ g < w2.heap.size + 2 := by
    intro g hg
    simp only [hM, List.mem_cons, Option.mem_toList] at hg
    rcases hg with rfl | rfl | hg
    · omega
    · omega
    · have := hown2.lt g hg
      simp at this
      omega
  refine ⟨w2.heap.size + 1, w2.heap.size, .slice A3 s.all.length cap3, by simp, ?_, fun g hg => ?_, hO3.alloc _⟩
  · refine ⟨?_, own_base hown3 (Nat.zero_le _), hm3.only ((Only.refl [] _).alloc _) (by simp), fun n x hx => ?_, ⟨by simp [hM], by simp [hM], fun g hg => List.mem_append_left _ (by simp only [hM, List.mem_cons, Option.mem_toList]; exact .inr (.inr hg))⟩, fun g hg => ?_⟩
    · have := Blk.new (w2.alloc o3) 75 #[.slice A3 s.all.length cap3, .map (some w2.heap.size), .int .i64 s.done, .int .i64 s.now]
      simpa using this
    · refine ((h.pl n x hx).ext (M' := hM (w2.heap.size + 1) w2.heap.size (.slice A3 s.all.length cap3) ++ M) fun g hg => ?_).only0 (hO3.alloc _)
      rcases List.mem_append.1 hg with q | q
      · exact .inr (hfr g q).1
      · exact .inl q
    · rcases List.mem_append.1 hg with q | q
      · have := hfr g q
        simp
        omega
      · have := h.mlt g q
        simp
        omega
  · have := hfr g hg
    simp
    omega
end
end Go.Proofs.Ytefkhkbkengniaa

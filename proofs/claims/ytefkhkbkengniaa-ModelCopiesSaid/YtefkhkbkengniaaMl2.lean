/- Small, Light, run. -/
import Derived.Test.YtefkhkbkengniaaMoc
import Derived.Test.YtefkhkbkengniaaMl1
set_option linter.unusedVariables false
set_option linter.unusedSimpArgs false
namespace Go.Proofs.Ytefkhkbkengniaa
open Go.RowKit Go.Sort
def RetB (e : Ending) (Q : Bool → Prop) : Prop := ∃ b : Bool, e = .returned (.bool b) ∧ Q b
theorem RetB.mk {b : Bool} {Q : Bool → Prop} (h : Q b) : RetB (.returned (.bool b)) Q := ⟨b, rfl, h⟩
set_option maxRecDepth 100000 in
set_option maxHeartbeats 2000000 in
theorem small_any {w : World} {c : Cmd} {ev : Value} (hc : CmdOk c) (he : Slc w 4 ev c.events.length (c.events.flatMap EventR.cells)) :
    Calls Try.prog 31 #[c.val ev] w fun e w' => RetB e (fun _ => True) ∧ Only [] w w' := by
  obtain ⟨A, cap, rfl, hnc, hcm, hel⟩ := he.openE EventR.cells (fun _ => rfl)
  unfold maxLen at hcm
  have hst := hc.stream
  unfold maxLen at hst
  have hes := hc.evs
  obtain ⟨W1, hW1⟩ : ∃ W1, W1 = w.alloc (.cells #[.int .i64 c.kind, .int .i64 c.time, .string c.stream, .int .i64 c.expected, .slice A c.events.length cap, .int .i64 c.mt.maxCount, .int .i64 c.mt.maxAge, .int .i64 c.mt.before] 35) := ⟨_, rfl⟩
  have hB := Blk.new w 35 #[.int .i64 c.kind, .int .i64 c.time, .string c.stream, .int .i64 c.expected, .slice A c.events.length cap, .int .i64 c.mt.maxCount, .int .i64 c.mt.maxAge, .int .i64 c.mt.before]
  have hO1 := (Only.refl [] w).alloc (.cells #[.int .i64 c.kind, .int .i64 c.time, .string c.stream, .int .i64 c.expected, .slice A c.events.length cap, .int .i64 c.mt.maxCount, .int .i64 c.mt.maxAge, .int .i64 c.mt.before] 35)
  rw [← hW1] at hB hO1
  rw [show c.val (.slice A c.events.length cap) = .agg #[.int .i64 c.kind, .int .i64 c.time, .string c.stream, .int .i64 c.expected, .slice A c.events.length cap, .int .i64 c.mt.maxCount, .int .i64 c.mt.maxAge, .int .i64 c.mt.before] from rfl]
  have HW := Lib.hid hW1
  clear hW1
  go_enter Try.func31, Try.ntmps31
  go_wp2
  rw [← HW.out]
  go_loopw [3] (fun i wr => ∃ k : Nat, k ≤ 20 ∧ i = .int .i64 k ∧ Only [] W1 wr) (fun i _ => 20 - (intOf i).toNat)
  case atStart => exact ⟨0, by omega, rfl, Only.refl _ _⟩
  case round =>
    obtain ⟨k, hk, rfl, hO⟩ := hrel
    have hb := fun i => (hO.blk hB (by simp)).cell i
    have hend : ∀ W, Only [] wr W → Only [] w W := fun W h => (hO1.trans hO).trans h
    have HEnd := Lib.hid hend
    clear hend
    by_cases hlt : k < c.events.length
    · by_cases h20 : k < 20
      · obtain ⟨b, off, rfl, hbb, hcc⟩ := hel k hlt
        obtain ⟨y, hy⟩ : ∃ y, y = c.events[k] := ⟨_, rfl⟩
        have hys := hes y (by rw [hy]; exact List.getElem_mem hlt)
        rw [← hy] at hcc
        have c1 : wr.cell? ⟨b, off + k * 4 + 1, none⟩ = some (.string y.type) := ((hO1.trans hO).cell hbb (by simp)).trans (hcc 1 (by omega))
        have c2 : wr.cell? ⟨b, off + k * 4 + 2, none⟩ = some (.string y.data) := ((hO1.trans hO).cell hbb (by simp)).trans (hcc 2 (by omega))
        obtain ⟨hy1, hy2⟩ := hys
        unfold maxLen at hy1 hy2
        clear hcc hes hy hel he
        by_cases h1 : y.type.size > 100
        · go_wp2
          go_ret
          exact ⟨.mk trivial, HEnd.out _ (Only.refl _ _)⟩
        · by_cases h2 : y.data.size > 300
          · go_wp2
            go_ret
            exact ⟨.mk trivial, HEnd.out _ (Only.refl _ _)⟩
          · go_wp2
            exact ⟨⟨k + 1, by omega, by simp, hO⟩, by simp [intOf]; omega⟩
      · clear hel he hes
        by_cases h12 : c.events.length ≤ 12
        · omega
        · go_wp2
          go_ret
          exact ⟨.mk trivial, HEnd.out _ (Only.refl _ _)⟩
    · clear hel he hes
      by_cases h12 : c.events.length ≤ 12
      · go_wp2
        go_ret
        exact ⟨.mk trivial, HEnd.out _ (Only.refl _ _)⟩
      · go_wp2
        go_ret
        exact ⟨.mk trivial, HEnd.out _ (Only.refl _ _)⟩
section
variable {a w : World} {v : Value} {l : List CmdV}
set_option maxRecDepth 100000 in
set_option maxHeartbeats 2000000 in
theorem light_any (h : CmdsAt a w v l) (few : Nat) (hf : few ≤ 1000) :
    Calls Try.prog 10 #[.int .i64 few, v] w fun e w' => RetB e (fun b => b = true → l.length ≤ few) ∧ Only [] w w' := by
  obtain ⟨A, cap, rfl, hnc, hcm, hel⟩ := h.cells
  unfold maxLen at hcm
  go_enter Try.func10, Try.ntmps10
  go_wp2
  go_loopw [5] (fun i wr => ∃ k : Nat, k ≤ few ∧ i = .int .i64 k ∧ Only [] w wr) (fun i _ => few - (intOf i).toNat)
  case atStart => exact ⟨0, by omega, rfl, Only.refl _ _⟩
  case round =>
    obtain ⟨k, hk, rfl, hO⟩ := hrel
    by_cases hlt : k < l.length
    · by_cases h20 : k < few
      · have hcell : ∀ b (h1 : b < w.heap.size) (h2 : b < a.heap.size) (i : Nat), wr.cell? ⟨b, i, none⟩ = w.cell? ⟨b, i, none⟩ := fun b h1 h2 i => hO.cell h1 (by simp)
        obtain ⟨b, off, rfl, hbb, hba, hcc⟩ := hel k hlt
        obtain ⟨x, hx⟩ : ∃ x, x = l[k] := ⟨_, rfl⟩
        have hxm : x ∈ l := by rw [hx]; exact List.getElem_mem hlt
        rw [← hx] at hcc
        have hxo := (h.cmd x hxm).1
        obtain ⟨Ax, capx, hxv, hx1, hx2, _⟩ := (h.cmd x hxm).2.1.openE EventR.cells (fun _ => rfl)
        have c0 : wr.cell? ⟨b, off + k * 8, none⟩ = some (.int .i64 x.c.kind) := (hcell b hbb hba _).trans (hcc 0 (by omega))
        have c1 : wr.cell? ⟨b, off + k * 8 + 1, none⟩ = some (.int .i64 x.c.time) := (hcell b hbb hba _).trans (hcc 1 (by omega))
        have c2 : wr.cell? ⟨b, off + k * 8 + 2, none⟩ = some (.string x.c.stream) := (hcell b hbb hba _).trans (hcc 2 (by omega))
        have c3 : wr.cell? ⟨b, off + k * 8 + 3, none⟩ = some (.int .i64 x.c.expected) := (hcell b hbb hba _).trans (hcc 3 (by omega))
        have c4 : wr.cell? ⟨b, off + k * 8 + 4, none⟩ = some (.slice Ax x.c.events.length capx) := (hcell b hbb hba _).trans ((hcc 4 (by omega)).trans (by rw [← hxv]; rfl))
        have c5 : wr.cell? ⟨b, off + k * 8 + 5, none⟩ = some (.int .i64 x.c.mt.maxCount) := (hcell b hbb hba _).trans (hcc 5 (by omega))
        have c6 : wr.cell? ⟨b, off + k * 8 + 6, none⟩ = some (.int .i64 x.c.mt.maxAge) := (hcell b hbb hba _).trans (hcc 6 (by omega))
        have c7 : wr.cell? ⟨b, off + k * 8 + 7, none⟩ = some (.int .i64 x.c.mt.before) := (hcell b hbb hba _).trans (hcc 7 (by omega))
        have hsm := small_any (w := wr) hxo ((h.cmd x hxm).2.1.only0 hO)
        rw [hxv] at hsm
        unfold Cmd.val at hsm
        have HS := Lib.hid hsm
        clear hcc hel hx hxv hsm hcell
        go_wp2_with (go_at_call 31; refine HS.out.mono ?_; rintro e w1 ⟨⟨bb, rfl, _⟩, ho1⟩; cases bb)
        · go_ret
          exact ⟨⟨false, rfl, fun q => by cases q⟩, hO.trans ho1⟩
        · exact ⟨⟨k + 1, by omega, by simp, hO.trans ho1⟩, by simp [intOf]; omega⟩
      · clear hel
        have h2 : ¬ (l.length ≤ few) := by omega
        go_wp2
        go_ret
        exact ⟨⟨_, rfl, fun q => by simp at q <;> omega⟩, hO⟩
    · clear hel
      have h2 : l.length ≤ few := by omega
      go_wp2
      go_ret
      exact ⟨⟨_, rfl, fun q => h2⟩, hO⟩
def runS (s : MS) (l : List CmdV) : MS := l.foldl (fun s x => (s.do x.c).2) s
theorem runS_take (s : MS) (l : List CmdV) (k : Nat) (h : k < l.length) : runS s (l.take (k + 1)) = ((runS s (l.take k)).do l[k].c).2 := by
  unfold runS
  rw [List.take_succ_eq_append_getElem h, List.foldl_append]
  rfl
variable {R E : List Nat} {sb mb N : Nat} {s : MS}
set_option maxRecDepth 100000 in
set_option maxHeartbeats 2000000 in
theorem run_any (hh : HasS a w R E sb mb s N) (h : CmdsAt a w v l) (hN : N + l.length ≤ 100000) :
    Calls Try.prog 16 #[.pointer (some ⟨sb, 0, none⟩), v] w fun e w' => e = .returned (.tuple #[]) ∧ HasS a w' R E sb mb (runS s l) (N + l.length) ∧ Keeps a (R ++ E) w w' := by
  obtain ⟨A, cap, rfl, hnc, hcm, hel⟩ := h.cells
  unfold maxLen at hcm
  go_enter Try.func16, Try.ntmps16
  go_wp2
  go_loopw [4] (fun i wr => ∃ k : Nat, k ≤ l.length ∧ i = .int .i64 k ∧ HasS a wr R E sb mb (runS s (l.take k)) (N + k) ∧ Keeps a (R ++ E) w wr) (fun i _ => l.length - (intOf i).toNat)
  case atStart => exact ⟨0, by omega, rfl, hh, Keeps.refl _ _ _⟩
  case round =>
    obtain ⟨k, hk, rfl, hS, hK⟩ := hrel
    by_cases hlt : k < l.length
    · have hcell : ∀ b (h1 : b < w.heap.size) (h2 : b < a.heap.size) (i : Nat), wr.cell? ⟨b, i, none⟩ = w.cell? ⟨b, i, none⟩ := fun b h1 h2 i => hK.cell h1 (.inl h2)
      have hrt := runS_take s l k hlt
      obtain ⟨b, off, rfl, hbb, hba, hcc⟩ := hel k hlt
      obtain ⟨x, hx⟩ : ∃ x, x = l[k] := ⟨_, rfl⟩
      have hxm : x ∈ l := by rw [hx]; exact List.getElem_mem hlt
      rw [← hx] at hcc
      have hxo := (h.cmd x hxm).1
      obtain ⟨Ax, capx, hxv, hx1, hx2, _⟩ := (h.cmd x hxm).2.1.openE EventR.cells (fun _ => rfl)
      have c0 : wr.cell? ⟨b, off + k * 8, none⟩ = some (.int .i64 x.c.kind) := (hcell b hbb hba _).trans (hcc 0 (by omega))
      have c1 : wr.cell? ⟨b, off + k * 8 + 1, none⟩ = some (.int .i64 x.c.time) := (hcell b hbb hba _).trans (hcc 1 (by omega))
      have c2 : wr.cell? ⟨b, off + k * 8 + 2, none⟩ = some (.string x.c.stream) := (hcell b hbb hba _).trans (hcc 2 (by omega))
      have c3 : wr.cell? ⟨b, off + k * 8 + 3, none⟩ = some (.int .i64 x.c.expected) := (hcell b hbb hba _).trans (hcc 3 (by omega))
      have c4 : wr.cell? ⟨b, off + k * 8 + 4, none⟩ = some (.slice Ax x.c.events.length capx) := (hcell b hbb hba _).trans ((hcc 4 (by omega)).trans (by rw [← hxv]; rfl))
      have c5 : wr.cell? ⟨b, off + k * 8 + 5, none⟩ = some (.int .i64 x.c.mt.maxCount) := (hcell b hbb hba _).trans (hcc 5 (by omega))
      have c6 : wr.cell? ⟨b, off + k * 8 + 6, none⟩ = some (.int .i64 x.c.mt.maxAge) := (hcell b hbb hba _).trans (hcc 6 (by omega))
      have c7 : wr.cell? ⟨b, off + k * 8 + 7, none⟩ = some (.int .i64 x.c.mt.before) := (hcell b hbb hba _).trans (hcc 7 (by omega))
      rw [← hx] at hrt
      have hdo := has_do (c := x.c) hS (by omega) hxo ((h.keep hK).ev hxm)
      rw [hxv, ← hrt] at hdo
      unfold Cmd.val at hdo
      have HD := Lib.hid hdo
      clear hcc hel hx hxv hdo hcell hrt hS
      go_wp2_with (go_at_call 13; refine HD.out.mono ?_; rintro e w1 ⟨rfl, hS1, hk1⟩)
      exact ⟨⟨k + 1, by omega, by simp, hS1, hK.trans hk1⟩, by simp [intOf]; omega⟩
    · have hkl : k = l.length := by omega
      have hfin : HasS a wr R E sb mb (runS s l) (N + l.length) := by
        rw [hkl, List.take_length] at hS
        exact hS
      have HF := Lib.hid hfin
      clear hel hfin hkl hS
      go_wp2
      go_end0
      exact ⟨rfl, HF.out, hK⟩
end
end Go.Proofs.Ytefkhkbkengniaa

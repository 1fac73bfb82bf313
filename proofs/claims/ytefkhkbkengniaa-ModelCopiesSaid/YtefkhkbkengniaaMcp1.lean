/- Contracts: an event is the same as itself (view.Same, event.SameEvent, real.Same); EqualFunc of a list with itself. -/
import Derived.Test.YtefkhkbkengniaaMe1
set_option linter.unusedVariables false
set_option linter.unusedSimpArgs false
namespace Go.Proofs.Ytefkhkbkengniaa
open Go.RowKit
set_option maxRecDepth 100000 in
theorem rbits_any (b : Nat) (w : World) : Calls Try.prog 104 #[.float .f64 b] w fun e w' => e = .returned (.int .u64 (canon b : Int)) ∧ w = w' := by
  have hf := fun b W => to_run b W
  go_enter Try.func104, Try.ntmps104
  go_wp2_with (go_at_call 95; refine (canon_any _ _).mono ?_; rintro e w' ⟨rfl, rfl⟩)
  go_ret
  exact ⟨rfl, rfl⟩
set_option maxRecDepth 100000 in
theorem rsame_refl (b : Nat) (w : World) : Calls Try.prog 98 #[.float .f64 b, .float .f64 b] w fun e w' => e = .returned (.bool true) ∧ w = w' := by
  have HB := Lib.hid (fun (b : Nat) W => rbits_any b W)
  have hb : ((canon b : Int) == (canon b : Int)) = true := by simp
  go_enter Try.func98, Try.ntmps98
  go_wp2_with (go_at_call 104; refine (HB.out _ _).mono ?_; rintro e w' ⟨rfl, rfl⟩)
  go_ret
  exact ⟨rfl, rfl⟩
set_option maxRecDepth 100000 in
theorem esame_refl (x : EventR) (w : World) : Calls Try.prog 82 #[.agg #[.int .i64 x.id, .string x.type, .string x.data, .float .f64 x.value], .agg #[.int .i64 x.id, .string x.type, .string x.data, .float .f64 x.value]] w fun e w' => e = .returned (.bool true) ∧ Only [] w w' := by
  have HS := Lib.hid (fun W => rsame_refl x.value W)
  go_enter Try.func82, Try.ntmps82
  go_wp2_with (go_at_call 98; refine (HS.out _).mono ?_; rintro e w' ⟨rfl, rfl⟩)
  go_ret
  exact ⟨rfl, ((Only.refl [] w).alloc _).alloc _⟩
set_option maxRecDepth 100000 in
theorem vsame_refl (x : StoredR) (w : World) : Calls Try.prog 53 #[.agg #[.int .i64 x.ev.id, .string x.ev.type, .string x.ev.data, .float .f64 x.ev.value, .string x.stream, .int .i64 x.version, .int .i64 x.position, .int .i64 x.time], .agg #[.int .i64 x.ev.id, .string x.ev.type, .string x.ev.data, .float .f64 x.ev.value, .string x.stream, .int .i64 x.version, .int .i64 x.position, .int .i64 x.time]] w fun e w' => e = .returned (.bool true) ∧ Only [] w w' := by
  have HE := Lib.hid (fun W => esame_refl x.ev W)
  have kB : ∀ cs t o1, Blk ((w.alloc o1).alloc (.cells cs t)) (w.heap.size + 1) t cs := fun cs t o1 => by
    have := Blk.new (w.alloc o1) t cs
    rw [World.size_alloc] at this
    exact this
  go_enter Try.func53, Try.ntmps53
  go_wp2_with (go_at_call 82; refine (HE.out _).mono ?_; rintro e w1 ⟨rfl, ho1⟩
               have ha := fun i => (ho1.blk (((Only.refl [] _).alloc _).blk (Blk.new w 48 _) (by simp)) (by simp)).cell i
               have hb := fun i => (ho1.blk (kB _ _ _) (by simp)).cell i)
  go_ret
  exact ⟨rfl, (((Only.refl [] w).alloc _).alloc _).trans ho1⟩
set_option maxRecDepth 100000 in
set_option maxHeartbeats 1000000 in
theorem eqSt_any {w : World} {v1 v2 : Value} {l : List StoredR} (h1 : Slc w 8 v1 l.length (l.flatMap StoredR.cells)) (h2 : Slc w 8 v2 l.length (l.flatMap StoredR.cells)) (hb : l.length ≤ 1000000) :
    Calls Try.prog 52 #[v1, v2, .func (.func 53) #[] #[]] w fun e w' => e = .returned (.bool true) ∧ Only [] w w' := by
  obtain ⟨A1, cap1, rfl, hn1, hc1, hel1⟩ := h1.openE StoredR.cells (fun _ => rfl)
  obtain ⟨A2, cap2, rfl, hn2, hc2, hel2⟩ := h2.openE StoredR.cells (fun _ => rfl)
  unfold maxLen at hc1 hc2
  clear h1 h2
  go_enter Try.func52, Try.ntmps52
  go_wp2
  go_loopw [17] (fun i wr => ∃ k : Nat, k ≤ l.length ∧ i = .int .i64 k ∧ Only [] w wr) (fun i _ => l.length - (intOf i).toNat)
  case atStart => exact ⟨0, Nat.zero_le _, rfl, Only.refl _ _⟩
  case round =>
    obtain ⟨k, hk, rfl, hO⟩ := hrel
    by_cases hlt : k < l.length
    · obtain ⟨b1, off1, rfl, hb1, hcc1⟩ := hel1 k hlt
      obtain ⟨b2, off2, rfl, hb2, hcc2⟩ := hel2 k hlt
      obtain ⟨x, hx⟩ : ∃ x, x = l[k] := ⟨_, rfl⟩
      rw [← hx] at hcc1 hcc2
      have c0 : wr.cell? ⟨b1, off1 + k * 8, none⟩ = some (.int .i64 x.ev.id) := (hO.cell hb1 (by simp)).trans (hcc1 0 (by omega))
      have c1 : wr.cell? ⟨b1, off1 + k * 8 + 1, none⟩ = some (.string x.ev.type) := (hO.cell hb1 (by simp)).trans (hcc1 1 (by omega))
      have c2 : wr.cell? ⟨b1, off1 + k * 8 + 2, none⟩ = some (.string x.ev.data) := (hO.cell hb1 (by simp)).trans (hcc1 2 (by omega))
      have c3 : wr.cell? ⟨b1, off1 + k * 8 + 3, none⟩ = some (.float .f64 x.ev.value) := (hO.cell hb1 (by simp)).trans (hcc1 3 (by omega))
      have c4 : wr.cell? ⟨b1, off1 + k * 8 + 4, none⟩ = some (.string x.stream) := (hO.cell hb1 (by simp)).trans (hcc1 4 (by omega))
      have c5 : wr.cell? ⟨b1, off1 + k * 8 + 5, none⟩ = some (.int .i64 x.version) := (hO.cell hb1 (by simp)).trans (hcc1 5 (by omega))
      have c6 : wr.cell? ⟨b1, off1 + k * 8 + 6, none⟩ = some (.int .i64 x.position) := (hO.cell hb1 (by simp)).trans (hcc1 6 (by omega))
      have c7 : wr.cell? ⟨b1, off1 + k * 8 + 7, none⟩ = some (.int .i64 x.time) := (hO.cell hb1 (by simp)).trans (hcc1 7 (by omega))
      have kk : ∀ (o : Obj) (r : Nat) u, (x.cells)[r]? = some u → r < 8 → (wr.alloc o).cell? ⟨b2, off2 + k * 8 + r, none⟩ = some u := fun o r u hu hr => (((hO.alloc o).cell hb2 (by simp)).trans (hcc2 r hr)).trans hu
      have d0 : ∀ o, (wr.alloc o).cell? ⟨b2, off2 + k * 8, none⟩ = some (.int .i64 x.ev.id) := fun o => kk o 0 _ rfl (by omega)
      have d1 : ∀ o, (wr.alloc o).cell? ⟨b2, off2 + k * 8 + 1, none⟩ = some (.string x.ev.type) := fun o => kk o 1 _ rfl (by omega)
      have d2 : ∀ o, (wr.alloc o).cell? ⟨b2, off2 + k * 8 + 2, none⟩ = some (.string x.ev.data) := fun o => kk o 2 _ rfl (by omega)
      have d3 : ∀ o, (wr.alloc o).cell? ⟨b2, off2 + k * 8 + 3, none⟩ = some (.float .f64 x.ev.value) := fun o => kk o 3 _ rfl (by omega)
      have d4 : ∀ o, (wr.alloc o).cell? ⟨b2, off2 + k * 8 + 4, none⟩ = some (.string x.stream) := fun o => kk o 4 _ rfl (by omega)
      have d5 : ∀ o, (wr.alloc o).cell? ⟨b2, off2 + k * 8 + 5, none⟩ = some (.int .i64 x.version) := fun o => kk o 5 _ rfl (by omega)
      have d6 : ∀ o, (wr.alloc o).cell? ⟨b2, off2 + k * 8 + 6, none⟩ = some (.int .i64 x.position) := fun o => kk o 6 _ rfl (by omega)
      have d7 : ∀ o, (wr.alloc o).cell? ⟨b2, off2 + k * 8 + 7, none⟩ = some (.int .i64 x.time) := fun o => kk o 7 _ rfl (by omega)
      have HS := Lib.hid (fun W => vsame_refl x W)
      have hsf := stF
      clear hcc1 hcc2 hx hel1 hel2 kk
      go_wp2_with (go_at_call 53; refine (HS.out _).mono ?_; rintro e w1 ⟨rfl, ho1⟩)
      exact ⟨⟨k + 1, hlt, by simp, ((hO.alloc _).alloc _).trans ho1⟩, by simp [intOf]; omega⟩
    · clear hel1 hel2
      go_wp2
      go_ret
      exact ⟨rfl, hO⟩
end Go.Proofs.Ytefkhkbkengniaa

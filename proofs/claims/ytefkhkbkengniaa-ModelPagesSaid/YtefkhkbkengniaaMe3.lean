/- Contracts: SameStored of lists. -/
import Derived.Test.YtefkhkbkengniaaMe2
set_option linter.unusedVariables false
set_option linter.unusedSimpArgs false
namespace Go.Proofs.Ytefkhkbkengniaa
open Go.RowKit
set_option maxRecDepth 100000 in
set_option maxHeartbeats 2000000 in
theorem r7sameS_any (x y : StoredR) (w : World) : Calls Try.prog 45 #[.agg #[.int .i64 x.ev.id, .string x.ev.type, .string x.ev.data, .float .f64 x.ev.value, .string x.stream, .int .i64 x.version, .int .i64 x.position, .int .i64 x.time], .agg #[.int .i64 y.ev.id, .string y.ev.type, .string y.ev.data, .float .f64 y.ev.value, .string y.stream, .int .i64 y.version, .int .i64 y.position, .int .i64 y.time]] w fun e w' => e = .returned (.bool (sameS x y)) ∧ Only [] w w' := by
  have HE := Lib.hid (fun W => r7sameE_any x.ev y.ev W)
  have kB : ∀ cs t o1, Blk ((w.alloc o1).alloc (.cells cs t)) (w.heap.size + 1) t cs := fun cs t o1 => by
    have := Blk.new (w.alloc o1) t cs
    rw [World.size_alloc] at this
    exact this
  cases h1 : sameE x.ev y.ev with
  | false =>
    rw [h1] at HE
    go_enter Try.func45, Try.ntmps45
    go_wp2_with (go_at_call 77; refine (HE.out _).mono ?_; rintro e w1 ⟨rfl, ho1⟩
                 have ha := fun i => (ho1.blk (((Only.refl [] _).alloc _).blk (Blk.new w 48 _) (by simp)) (by simp)).cell i
                 have hb := fun i => (ho1.blk (kB _ _ _) (by simp)).cell i)
    go_ret
    exact ⟨ret_b (by simp [sameS, h1]), (((Only.refl [] w).alloc _).alloc _).trans ho1⟩
  | true =>
    rw [h1] at HE
    by_cases h2 : x.stream.toList = y.stream.toList
    · have b2 : (x.stream.toList == y.stream.toList) = true := by rw [beq_iff_eq]; exact h2
      by_cases h3 : x.version = y.version
      · by_cases h4 : x.position = y.position
        · by_cases h5 : x.time = y.time
          · go_enter Try.func45, Try.ntmps45
            go_wp2_with (go_at_call 77; refine (HE.out _).mono ?_; rintro e w1 ⟨rfl, ho1⟩
                         have ha := fun i => (ho1.blk (((Only.refl [] _).alloc _).blk (Blk.new w 48 _) (by simp)) (by simp)).cell i
                         have hb := fun i => (ho1.blk (kB _ _ _) (by simp)).cell i)
            go_ret
            exact ⟨ret_b (by simp [sameS, h1, h2, h3, h4, h5]), (((Only.refl [] w).alloc _).alloc _).trans ho1⟩
          · have b5 : (x.time == y.time) = false := by rw [beq_eq_false_iff_ne]; exact h5
            go_enter Try.func45, Try.ntmps45
            go_wp2_with (go_at_call 77; refine (HE.out _).mono ?_; rintro e w1 ⟨rfl, ho1⟩
                         have ha := fun i => (ho1.blk (((Only.refl [] _).alloc _).blk (Blk.new w 48 _) (by simp)) (by simp)).cell i
                         have hb := fun i => (ho1.blk (kB _ _ _) (by simp)).cell i)
            go_ret
            exact ⟨ret_b (by simp [sameS, h1, h2, h3, h4, h5]), (((Only.refl [] w).alloc _).alloc _).trans ho1⟩
        · have b5 : (x.position == y.position) = false := by rw [beq_eq_false_iff_ne]; exact h4
          go_enter Try.func45, Try.ntmps45
          go_wp2_with (go_at_call 77; refine (HE.out _).mono ?_; rintro e w1 ⟨rfl, ho1⟩
                       have ha := fun i => (ho1.blk (((Only.refl [] _).alloc _).blk (Blk.new w 48 _) (by simp)) (by simp)).cell i
                       have hb := fun i => (ho1.blk (kB _ _ _) (by simp)).cell i)
          go_ret
          exact ⟨ret_b (by simp [sameS, h1, h2, h3, h4]), (((Only.refl [] w).alloc _).alloc _).trans ho1⟩
      · have b5 : (x.version == y.version) = false := by rw [beq_eq_false_iff_ne]; exact h3
        go_enter Try.func45, Try.ntmps45
        go_wp2_with (go_at_call 77; refine (HE.out _).mono ?_; rintro e w1 ⟨rfl, ho1⟩
                     have ha := fun i => (ho1.blk (((Only.refl [] _).alloc _).blk (Blk.new w 48 _) (by simp)) (by simp)).cell i
                     have hb := fun i => (ho1.blk (kB _ _ _) (by simp)).cell i)
        go_ret
        exact ⟨ret_b (by simp [sameS, h1, h2, h3]), (((Only.refl [] w).alloc _).alloc _).trans ho1⟩
    · have b2 : (x.stream.toList == y.stream.toList) = false := by rw [beq_eq_false_iff_ne]; exact h2
      go_enter Try.func45, Try.ntmps45
      go_wp2_with (go_at_call 77; refine (HE.out _).mono ?_; rintro e w1 ⟨rfl, ho1⟩
                   have ha := fun i => (ho1.blk (((Only.refl [] _).alloc _).blk (Blk.new w 48 _) (by simp)) (by simp)).cell i
                   have hb := fun i => (ho1.blk (kB _ _ _) (by simp)).cell i)
      go_ret
      exact ⟨ret_b (by simp [sameS, h1, h2]), (((Only.refl [] w).alloc _).alloc _).trans ho1⟩
theorem sameL_drop {l m : List StoredR} {k : Nat} (h1 : k < l.length) (h2 : k < m.length) : sameL (l.drop k) (m.drop k) = (sameS l[k] m[k] && sameL (l.drop (k + 1)) (m.drop (k + 1))) := by
  rw [List.drop_eq_getElem_cons h1, List.drop_eq_getElem_cons h2]
  rfl
theorem sameL_len : ∀ (l m : List StoredR), l.length ≠ m.length → sameL l m = false
  | [], [], h => absurd rfl h
  | [], _ :: _, _ => rfl
  | _ :: _, [], _ => rfl
  | x :: l, y :: m, h => by
    simp only [sameL, sameL_len l m (by simpa using h), Bool.and_false]
set_option maxRecDepth 100000 in
set_option maxHeartbeats 4000000 in
theorem sameL_any {w : World} {v1 v2 : Value} {l m : List StoredR} (h1 : Slc w 8 v1 l.length (l.flatMap StoredR.cells)) (h2 : Slc w 8 v2 m.length (m.flatMap StoredR.cells)) (hl : l.length ≤ 1000000) (hm : m.length ≤ 1000000) :
    Calls Try.prog 23 #[v1, v2] w fun e w' => e = .returned (.bool (sameL l m)) ∧ Only [] w w' := by
  obtain ⟨A1, cap1, rfl, hn1, hc1, hel1⟩ := h1.openE StoredR.cells (fun _ => rfl)
  obtain ⟨A2, cap2, rfl, hn2, hc2, hel2⟩ := h2.openE StoredR.cells (fun _ => rfl)
  unfold maxLen at hc1 hc2
  by_cases hlm : l.length = m.length
  · have hb : ((l.length : Int) != m.length) = false := by rw [hlm]; simp
    have HLM := Lib.hid hlm
    have hR : Hid (sameL l m = sameL (l.drop 0) (m.drop 0)) := rfl
    clear hlm
    go_enter Try.func23, Try.ntmps23
    go_wp2
    go_loopw [5] (fun i wr => ∃ k : Nat, k ≤ l.length ∧ i = .int .i64 k ∧ Hid (sameL l m = sameL (l.drop k) (m.drop k)) ∧ Only [] w wr) (fun i _ => l.length - (intOf i).toNat)
    case atStart => exact ⟨0, Nat.zero_le _, rfl, hR, Only.refl _ _⟩
    case round =>
      obtain ⟨k, hk, rfl, hT, hO⟩ := hrel
      by_cases hlt : k < l.length
      · have hlt2 : k < m.length := by rw [← HLM.out]; exact hlt
        obtain ⟨b1, off1, rfl, hb1, hcc1⟩ := hel1 k hlt
        obtain ⟨b2, off2, rfl, hb2, hcc2⟩ := hel2 k hlt2
        have hd := sameL_drop hlt hlt2
        obtain ⟨x, hx⟩ : ∃ x, x = l[k] := ⟨_, rfl⟩
        obtain ⟨y, hy⟩ : ∃ y, y = m[k] := ⟨_, rfl⟩
        rw [← hx] at hcc1 hd
        rw [← hy] at hcc2 hd
        have c0 : wr.cell? ⟨b1, off1 + k * 8, none⟩ = some (.int .i64 x.ev.id) := (hO.cell hb1 (by simp)).trans (hcc1 0 (by omega))
        have c1 : wr.cell? ⟨b1, off1 + k * 8 + 1, none⟩ = some (.string x.ev.type) := (hO.cell hb1 (by simp)).trans (hcc1 1 (by omega))
        have c2 : wr.cell? ⟨b1, off1 + k * 8 + 2, none⟩ = some (.string x.ev.data) := (hO.cell hb1 (by simp)).trans (hcc1 2 (by omega))
        have c3 : wr.cell? ⟨b1, off1 + k * 8 + 3, none⟩ = some (.float .f64 x.ev.value) := (hO.cell hb1 (by simp)).trans (hcc1 3 (by omega))
        have c4 : wr.cell? ⟨b1, off1 + k * 8 + 4, none⟩ = some (.string x.stream) := (hO.cell hb1 (by simp)).trans (hcc1 4 (by omega))
        have c5 : wr.cell? ⟨b1, off1 + k * 8 + 5, none⟩ = some (.int .i64 x.version) := (hO.cell hb1 (by simp)).trans (hcc1 5 (by omega))
        have c6 : wr.cell? ⟨b1, off1 + k * 8 + 6, none⟩ = some (.int .i64 x.position) := (hO.cell hb1 (by simp)).trans (hcc1 6 (by omega))
        have c7 : wr.cell? ⟨b1, off1 + k * 8 + 7, none⟩ = some (.int .i64 x.time) := (hO.cell hb1 (by simp)).trans (hcc1 7 (by omega))
        have d0 : wr.cell? ⟨b2, off2 + k * 8, none⟩ = some (.int .i64 y.ev.id) := (hO.cell hb2 (by simp)).trans (hcc2 0 (by omega))
        have d1 : wr.cell? ⟨b2, off2 + k * 8 + 1, none⟩ = some (.string y.ev.type) := (hO.cell hb2 (by simp)).trans (hcc2 1 (by omega))
        have d2 : wr.cell? ⟨b2, off2 + k * 8 + 2, none⟩ = some (.string y.ev.data) := (hO.cell hb2 (by simp)).trans (hcc2 2 (by omega))
        have d3 : wr.cell? ⟨b2, off2 + k * 8 + 3, none⟩ = some (.float .f64 y.ev.value) := (hO.cell hb2 (by simp)).trans (hcc2 3 (by omega))
        have d4 : wr.cell? ⟨b2, off2 + k * 8 + 4, none⟩ = some (.string y.stream) := (hO.cell hb2 (by simp)).trans (hcc2 4 (by omega))
        have d5 : wr.cell? ⟨b2, off2 + k * 8 + 5, none⟩ = some (.int .i64 y.version) := (hO.cell hb2 (by simp)).trans (hcc2 5 (by omega))
        have d6 : wr.cell? ⟨b2, off2 + k * 8 + 6, none⟩ = some (.int .i64 y.position) := (hO.cell hb2 (by simp)).trans (hcc2 6 (by omega))
        have d7 : wr.cell? ⟨b2, off2 + k * 8 + 7, none⟩ = some (.int .i64 y.time) := (hO.cell hb2 (by simp)).trans (hcc2 7 (by omega))
        have HS := Lib.hid (fun W => r7sameS_any x y W)
        have hki : (k : Int) < m.length := by omega
        clear hcc1 hcc2 hx hy hel1 hel2
        have F0 := Within.cell (S := []) c0 (by simp)
        have F1 := Within.cell (S := []) c1 (by simp)
        have F2 := Within.cell (S := []) c2 (by simp)
        have F3 := Within.cell (S := []) c3 (by simp)
        have F4 := Within.cell (S := []) c4 (by simp)
        have F5 := Within.cell (S := []) c5 (by simp)
        have F6 := Within.cell (S := []) c6 (by simp)
        have F7 := Within.cell (S := []) c7 (by simp)
        have G0 := Within.cell (S := []) d0 (by simp)
        have G1 := Within.cell (S := []) d1 (by simp)
        have G2 := Within.cell (S := []) d2 (by simp)
        have G3 := Within.cell (S := []) d3 (by simp)
        have G4 := Within.cell (S := []) d4 (by simp)
        have G5 := Within.cell (S := []) d5 (by simp)
        have G6 := Within.cell (S := []) d6 (by simp)
        have G7 := Within.cell (S := []) d7 (by simp)
        clear c0 c1 c2 c3 c4 c5 c6 c7 d0 d1 d2 d3 d4 d5 d6 d7
        cases hs : sameS x y with
        | true =>
          rw [hs] at HS
          have HN : Hid (sameL l m = sameL (l.drop (k + 1)) (m.drop (k + 1))) := by unfold Hid; rw [hT.out, hd, hs, Bool.true_and]
          clear hd hs hT
          go_wp2_with fail
          refine wp_region_in [] [0, 1, 2, 3, 4, 5, 6, 7] [] [8, 9] (by kernel_rfl) (by kernel_rfl) (by intro c d u a w h; cases d <;> exact h) ?_
          show wpQuiet _ _ _ _ [_, _, _, _, _, _, _, _] _
          repeat (go_big_quiet_step (fail))
          refine wpQuiet_nil ?_
          show wpList _ _ _ [_, _] _ _
          go_wp2_with (go_at_call 45; refine (HS.out _).mono ?_; rintro e w1 ⟨rfl, ho1⟩)
          exact ⟨⟨k + 1, hlt, by simp, HN, hO.drew.trans ho1⟩, by simp [intOf]; omega⟩
        | false =>
          rw [hs] at HS
          have HN : Hid (sameL l m = false) := by unfold Hid; rw [hT.out, hd, hs, Bool.false_and]
          clear hd hs hT
          go_wp2_with fail
          refine wp_region_in [] [0, 1, 2, 3, 4, 5, 6, 7] [] [8, 9] (by kernel_rfl) (by kernel_rfl) (by intro c d u a w h; cases d <;> exact h) ?_
          show wpQuiet _ _ _ _ [_, _, _, _, _, _, _, _] _
          repeat (go_big_quiet_step (fail))
          refine wpQuiet_nil ?_
          show wpList _ _ _ [_, _] _ _
          go_wp2_with (go_at_call 45; refine (HS.out _).mono ?_; rintro e w1 ⟨rfl, ho1⟩)
          go_ret
          exact ⟨ret_b (by rw [HN.out]), hO.drew.trans ho1⟩
      · have HN : Hid (sameL l m = true) := by
          unfold Hid
          rw [hT.out, List.drop_of_length_le (by omega), List.drop_of_length_le (by have := HLM.out; omega)]
          rfl
        clear hel1 hel2
        go_wp2
        go_ret
        exact ⟨ret_b (by rw [HN.out]), hO⟩
  · have hb : ((l.length : Int) != m.length) = true := by rw [bne_iff_ne]; omega
    have HN : Hid (sameL l m = false) := sameL_len l m hlm
    clear hlm hel1 hel2
    go_enter Try.func23, Try.ntmps23
    go_wp2
    go_ret
    exact ⟨ret_b (by rw [HN.out]), Only.refl _ _⟩
end Go.Proofs.Ytefkhkbkengniaa

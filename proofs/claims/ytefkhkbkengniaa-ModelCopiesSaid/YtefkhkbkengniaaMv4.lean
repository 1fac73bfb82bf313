/- Contract: Seen. -/
import Derived.Test.YtefkhkbkengniaaMh
set_option linter.unusedVariables false
set_option linter.unusedSimpArgs false
namespace Go.Proofs.Ytefkhkbkengniaa
open Go.RowKit Go Go.Sort
section
variable {P : Program} {C : World → Prop} {Q : Exit → Act → World → Prop} {l : List Oper} {H A T2 : List Nat} {r : List (List Nat × List Nat)} {K : Act → World → Prop} {a : Act} {w : World}
theorem stagesNil (h : wpT1 P l.toArray C Q (opsAt l A) (wpStages P l C Q K r) a w) : wpStages P l C Q K (([], A) :: r) a w := wpQuiet_nil (P := P) (ops := l.toArray) (C := C) h
theorem stagesFirst (h : wpQuiet P l.toArray C (fun a' => wpT1 P l.toArray C Q (opsAt l A) (wpStages P l C Q K r) a' w) (opsAt l H) a) : wpStages P l C Q K ((H, A) :: r) a w := h
theorem stagesNext (h : wpQuiet P l.toArray C (fun a' => wpT1 P l.toArray C Q (opsAt l A) (wpStages P l C Q K r) a' w) (opsAt l H) a) : wpT1 P l.toArray C Q (opsAt l []) (wpStages P l C Q K ((H, A) :: r)) a w := h
theorem stagesEnd (h : wpList P l.toArray Q (opsAt l T2) a w) : wpT1 P l.toArray C Q (opsAt l []) (wpStages P l C Q (fun a w => wpList P l.toArray Q (opsAt l T2) a w) []) a w := h
end
def MS.seenAt (s : MS) (p : Int) : Bool := if p < 0 ∨ (s.all.length : Int) ≤ p then false else !(s.find (evAt s.all p).stream).deleted && decide (s.floorS (evAt s.all p).stream ≤ (evAt s.all p).version)
section
variable {w : World} {M : List Nat} {sb mb N : Nat} {av : Value} {pf : ByteArray → Value} {s : MS}
set_option maxRecDepth 100000 in
set_option maxHeartbeats 2000000 in
theorem seenAt_any (h : StAt w M sb mb av pf s) (hs : s.Ok N) (hN : N ≤ 100000) (p : Int) :
    Calls Try.prog 24 #[.pointer (some ⟨sb, 0, none⟩), .int .i64 p] w fun e w' => e = .returned (.bool (s.seenAt p)) ∧ Only [] w w' := by
  have hal := hs.all
  obtain ⟨A2, cap2, hav, hnc2, hcm2, hel2⟩ := h.cell
  unfold maxLen at hcm2
  have hln := Lib.hid (fun (W : World) (hW : Only [] w W) => lenS_any (h.only0 hW))
  by_cases hneg : p < 0
  · have hR : Hid (s.seenAt p = false) := by unfold Hid MS.seenAt; rw [if_pos (.inl hneg)]
    clear hel2
    go_enter Try.func24, Try.ntmps24
    go_wp2
    go_ret
    exact ⟨ret_b (by rw [hR.out]), Only.refl _ _⟩
  · by_cases hge : p ≥ s.all.length
    · have hR : Hid (s.seenAt p = false) := by unfold Hid MS.seenAt; rw [if_pos (.inr hge)]
      clear hel2
      go_enter Try.func24, Try.ntmps24
      go_wp2_with (go_at_call 14; refine (hln.out _ (Only.refl _ _)).mono ?_; rintro e w1 ⟨rfl, rfl⟩)
      go_ret
      exact ⟨ret_b (by rw [hR.out]), Only.refl _ _⟩
    · obtain ⟨q, rfl⟩ := Int.eq_ofNat_of_zero_le (show 0 ≤ p by omega)
      have hq : q < s.all.length := by omega
      have hqi : (q : Int) < s.all.length := by omega
      have hdec : s.seenAt q = (!(s.find (s.all[q]).stream).deleted && decide (s.floorS (s.all[q]).stream ≤ (s.all[q]).version)) := by
        unfold MS.seenAt
        rw [if_neg (by omega), evAt_nat hq]
      obtain ⟨b2, rfl, hb2, hc2⟩ := hel2 q hq
      obtain ⟨z, hz⟩ : ∃ z, z = s.all[q] := ⟨_, rfl⟩
      rw [← hz] at hc2 hdec
      have d0 : w.cell? ⟨b2, q * 8, none⟩ = some (.int .i64 z.ev.id) := hc2 0 (by omega)
      have d1 : w.cell? ⟨b2, q * 8 + 1, none⟩ = some (.string z.ev.type) := hc2 1 (by omega)
      have d2 : w.cell? ⟨b2, q * 8 + 2, none⟩ = some (.string z.ev.data) := hc2 2 (by omega)
      have d3 : w.cell? ⟨b2, q * 8 + 3, none⟩ = some (.float .f64 z.ev.value) := hc2 3 (by omega)
      have d4 : w.cell? ⟨b2, q * 8 + 4, none⟩ = some (.string z.stream) := hc2 4 (by omega)
      have d5 : w.cell? ⟨b2, q * 8 + 5, none⟩ = some (.int .i64 z.version) := hc2 5 (by omega)
      have d6 : w.cell? ⟨b2, q * 8 + 6, none⟩ = some (.int .i64 z.position) := hc2 6 (by omega)
      have d7 : w.cell? ⟨b2, q * 8 + 7, none⟩ = some (.int .i64 z.time) := hc2 7 (by omega)
      have c0 : w.cell? ⟨sb, 0, none⟩ = some (.slice (some ⟨b2, 0, none⟩) s.all.length cap2) := by rw [← hav]; exact h.blk.cell 0
      have hdl := fun (W : World) (hW : Only [] w W) => deletedS_any (h.only0 hW) z.stream
      have hfl := fun (W : World) (hW : Only [] w W) => floorS_any (h.only0 hW) hs hN z.stream
      obtain ⟨fo, hfo⟩ : ∃ fo, fo = s.floorS z.stream := ⟨_, rfl⟩
      rw [← hfo] at hfl hdec
      have HF := Lib.hid hfl
      have hsf := stF
      have hB := Blk.new w 48 #[.int .i64 z.ev.id, .string z.ev.type, .string z.ev.data, .float .f64 z.ev.value, .string z.stream, .int .i64 z.version, .int .i64 z.position, .int .i64 z.time]
      have hlw : w.heap.size < (w.alloc (.cells #[.int .i64 z.ev.id, .string z.ev.type, .string z.ev.data, .float .f64 z.ev.value, .string z.stream, .int .i64 z.version, .int .i64 z.position, .int .i64 z.time] 48)).heap.size := by simp
      obtain ⟨W0, hW0⟩ : ∃ W0, W0 = w.alloc (.cells #[.int .i64 z.ev.id, .string z.ev.type, .string z.ev.data, .float .f64 z.ev.value, .string z.stream, .int .i64 z.version, .int .i64 z.position, .int .i64 z.time] 48) := ⟨_, rfl⟩
      have hO0 : Only [] w W0 := by rw [hW0]; exact (Only.refl [] w).alloc _
      rw [← hW0] at hB hlw
      have HW0 := Lib.hid hW0
      have k4 := Kept.cell (a := W0) (R := []) (hB.cell 4) (.inl hlw)
      have k5 := Kept.cell (a := W0) (R := []) (hB.cell 5) (.inl hlw)
      clear hel2 hc2 hz hfl hfo hW0
      cases hd : (s.find z.stream).deleted with
      | true =>
        rw [hd] at hdl hdec
        have HD := Lib.hid hdl
        have hR : Hid (s.seenAt q = false) := by unfold Hid; rw [hdec]; rfl
        clear hdl hdec hd
        go_enter Try.func24, Try.ntmps24
        go_wp2_with (go_at_call 14; refine (hln.out _ (Only.refl _ _)).mono ?_; rintro e w1 ⟨rfl, rfl⟩)
        rw [← HW0.out]
        refine wp_region_stages (C := fun W => ∃ p : Kept W0 [] W0, W = p.W) [([0, 1, 2], [3]), ([4, 5, 6, 7, 8, 9, 10], [11])] [12, 13, 14] (by kernel_rfl) (by kernel_rfl) (by intro c d u a w h; cases d <;> exact h) ⟨⟨_, (Keeps.refl _ _ _).drew⟩, rfl⟩ ?_
        refine stagesFirst ?_
        show wpQuiet _ _ _ _ [_, _, _] _
        repeat (go_big_quiet_step (fail))
        refine wpQuiet_nil ?_
        show wpList _ _ _ [_] _ _
        go_wp2_with (go_at_call 15; refine (HD.out _ hO0.drew).mono ?_; rintro e w2 ⟨rfl, ho2⟩)
        have hK : Keeps W0 [] W0 w2 := (Keeps.refl _ _ _).drew.then0 ho2
        refine check_kept hK ?_
        refine stagesNext ?_
        show wpQuiet _ _ _ _ [_, _, _, _, _, _, _] _
        try go_frame
        repeat (go_big_quiet_step (fail))
        refine wpQuiet_nil ?_
        show wpList _ _ _ [_] _ _
        go_wp2_with fail
        refine check_kept hK ?_
        refine stagesEnd ?_
        show wpList _ _ _ [_, _, _] _ _
        go_wp2
        go_ret
        exact ⟨ret_b (by rw [hR.out]), hO0.drew.trans ho2⟩
      | false =>
        rw [hd] at hdl hdec
        have HD := Lib.hid hdl
        have hR : Hid (s.seenAt q = decide (fo ≤ z.version)) := by unfold Hid; rw [hdec]; rfl
        clear hdl hdec hd
        go_enter Try.func24, Try.ntmps24
        go_wp2_with (go_at_call 14; refine (hln.out _ (Only.refl _ _)).mono ?_; rintro e w1 ⟨rfl, rfl⟩)
        rw [← HW0.out]
        refine wp_region_stages (C := fun W => ∃ p : Kept W0 [] W0, W = p.W) [([0, 1, 2], [3]), ([4, 5, 6, 7, 8, 9, 10], [11])] [12, 13, 14] (by kernel_rfl) (by kernel_rfl) (by intro c d u a w h; cases d <;> exact h) ⟨⟨_, (Keeps.refl _ _ _).drew⟩, rfl⟩ ?_
        refine stagesFirst ?_
        show wpQuiet _ _ _ _ [_, _, _] _
        repeat (go_big_quiet_step (fail))
        refine wpQuiet_nil ?_
        show wpList _ _ _ [_] _ _
        go_wp2_with (go_at_call 15; refine (HD.out _ hO0.drew).mono ?_; rintro e w2 ⟨rfl, ho2⟩)
        have hK : Keeps W0 [] W0 w2 := (Keeps.refl _ _ _).drew.then0 ho2
        refine check_kept hK ?_
        refine stagesNext ?_
        show wpQuiet _ _ _ _ [_, _, _, _, _, _, _] _
        try go_frame
        repeat (go_big_quiet_step (fail))
        refine wpQuiet_nil ?_
        show wpList _ _ _ [_] _ _
        go_wp2_with (go_at_call 28; refine (HF.out _ (hO0.drew.trans ho2)).mono ?_; rintro e w3 ⟨rfl, ho3⟩)
        refine check_kept (hK.then0 ho3) ?_
        refine stagesEnd ?_
        show wpList _ _ _ [_, _, _] _ _
        go_wp2
        go_ret
        exact ⟨ret_b (by rw [hR.out]), (hO0.drew.trans ho2).trans ho3⟩
end
section
variable {a w : World} {R E : List Nat} {sb mb N : Nat} {s : MS}
theorem has_seen (h : HasS a w R E sb mb s N) (hN : N ≤ 100000) (p : Int) :
    Calls Try.prog 24 #[.pointer (some ⟨sb, 0, none⟩), .int .i64 p] w fun e w' => e = .returned (.bool (s.seenAt p)) ∧ Only [] w w' := by
  obtain ⟨M, av, pf, h1, _⟩ := h.st
  exact seenAt_any h1 h.ok hN p
end
end Go.Proofs.Ytefkhkbkengniaa

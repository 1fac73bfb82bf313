/- Contract: act on a command that appends. -/
import Derived.Test.YtefkhkbkengniaaMc12
set_option linter.unusedVariables false
set_option linter.unusedSimpArgs false
namespace Go.Proofs.Ytefkhkbkengniaa
open Go.RowKit
theorem firstOf_cases (all : List StoredR) (id : Int) : ∀ (ps : List Int) (k : Int), firstOf all id ps k = -1 ∨ (k ≤ firstOf all id ps k ∧ firstOf all id ps k < k + ps.length)
  | [], _ => .inl rfl
  | p :: l, k => by
    unfold firstOf
    split
    · right
      simp
      omega
    · rcases firstOf_cases all id l (k + 1) with q | q
      · exact .inl q
      · right
        simp
        omega
theorem first_cases (s : MS) (x : StreamR) (id : Int) : s.first x id = -1 ∨ ∃ v : Nat, s.first x id = v ∧ v < x.places.length := by
  rcases firstOf_cases s.all id x.places 0 with q | ⟨q1, q2⟩
  · exact .inl q
  · refine .inr ⟨(s.first x id).toNat, ?_, ?_⟩ <;> unfold MS.first <;> omega
def headId (c : Cmd) : Int := ((c.events.head?).map (·.id)).getD 0
theorem headId_at {c : Cmd} (h : 0 < c.events.length) : headId c = c.events[0].id := by
  unfold headId
  rw [List.head?_eq_getElem?, List.getElem?_eq_getElem h]
  rfl
set_option maxRecDepth 100000 in
set_option maxHeartbeats 4000000 in
theorem act_again {w : World} {M : List Nat} {sb mb : Nat} {av pv ev : Value} {pf : ByteArray → Value} {s : MS} {x : StreamR} {c : Cmd} (h : StAt w M sb mb av pf s) (hx : XOk s x) (hp : Rd M w 1 pv x.places.length (ints x.places))
    (he : Rd M w 4 ev c.events.length (c.events.flatMap EventR.cells)) (hl : s.all.length ≤ 1000000) (hk : c.kind ≠ 2 ∧ c.kind ≠ 3) (hel : 1 ≤ c.events.length ∧ c.events.length ≤ 8) {v : Nat} (hv : s.first x (headId c) = v) (hvl : v < x.places.length) :
    Calls Try.prog 39 #[.pointer (some ⟨sb, 0, none⟩), c.val ev, x.val pv] w fun e w' => ∃ pv', e = .returned (.tuple #[(s.act c x).1.val, (s.act c x).2.1.val pv']) ∧ ActLeads w M sb mb av pf (s.act c x).2.1 (s.act c x).2.2 pv' w' := by
  obtain ⟨A, cap, hpv, hn1, hn2, hps⟩ := hp.1.openI
  obtain ⟨A1, cap1, hev, hn3, hn4, hes⟩ := he.1.openE EventR.cells (fun _ => rfl)
  obtain ⟨A2, cap2, hav, hnc2, hcm2, hel2⟩ := h.cell
  unfold maxLen at hn2 hn4 hcm2
  have hfew := hx.few
  have hsb := h.blk.lt
  have h0 : ∀ o1 o2 o3 o4, Only [] w ((((w.alloc o1).alloc o2).alloc o3).alloc o4) := fun o1 o2 o3 o4 => ((((Only.refl [] w).alloc _).alloc _).alloc _).alloc _
  have kC : ∀ cs t o2 o3 o4, Blk ((((w.alloc (.cells cs t)).alloc o2).alloc o3).alloc o4) w.heap.size t cs := fun cs t o2 o3 o4 => ((((Only.refl [] _).alloc o2).alloc o3).alloc o4).blk (Blk.new w t cs) (by simp)
  have kX : ∀ cs t o1 o3 o4, Blk ((((w.alloc o1).alloc (.cells cs t)).alloc o3).alloc o4) (w.heap.size + 1) t cs := fun cs t o1 o3 o4 => by
    have := (((Only.refl [] _).alloc o3).alloc o4).blk (Blk.new (w.alloc o1) t cs) (by simp)
    simpa using this
  have kA : ∀ cs t o1 o2 o4, Blk ((((w.alloc o1).alloc o2).alloc (.cells cs t)).alloc o4) (w.heap.size + 1 + 1) t cs := fun cs t o1 o2 o4 => by
    have := ((Only.refl [] _).alloc o4).blk (Blk.new ((w.alloc o1).alloc o2) t cs) (by simp)
    simpa using this
  have kY : ∀ cs t o1 o2 o3, Blk ((((w.alloc o1).alloc o2).alloc o3).alloc (.cells cs t)) (w.heap.size + 1 + 1 + 1) t cs := fun cs t o1 o2 o3 => by
    have := Blk.new (((w.alloc o1).alloc o2).alloc o3) t cs
    simpa using this
  have c0 : w.cell? ⟨sb, 0, none⟩ = some (.slice A2 s.all.length cap2) := by rw [← hav]; exact h.blk.cell 0
  have F0 := fun o1 o2 o3 o4 => Within.cell (S := []) (((h0 o1 o2 o3 o4).cell hsb (by simp)).trans c0) (by simp)
  have X0 := fun v a b d f g t o1 o3 o4 => Within.cell (S := []) ((kX #[v, a, b, d, f, g] t o1 o3 o4).cell 0) (by simp)
  subst hpv hev
  obtain ⟨R, hR⟩ : ∃ R, R = s.act c x := ⟨_, rfl⟩
  rw [← hR]
  have HR := Lib.hid hR
  clear hR c0
  rw [show c.val (.slice A1 c.events.length cap1) = .agg #[.int .i64 c.kind, .int .i64 c.time, .string c.stream, .int .i64 c.expected, .slice A1 c.events.length cap1, .int .i64 c.mt.maxCount, .int .i64 c.mt.maxAge, .int .i64 c.mt.before] from rfl,
    show x.val (.slice A x.places.length cap) = .agg #[.slice A x.places.length cap, .int .i64 x.mt.maxCount, .int .i64 x.mt.maxAge, .int .i64 x.mt.before, .int .i64 x.floor, .bool x.deleted] from rfl]
  have hk1 : ((c.kind : Int) == 2) = false := by rw [beq_eq_false_iff_ne]; omega
  have hk2 : ((c.kind : Int) == 3) = false := by rw [beq_eq_false_iff_ne]; omega
  obtain ⟨hel1, hel8⟩ := hel
  obtain ⟨be, offe, rfl, hbe, hce⟩ := hes 0 (by omega)
  have e0 : w.cell? ⟨be, offe, none⟩ = some (.int .i64 (headId c)) := by
    rw [headId_at (by omega)]
    have q := hce 0 (by omega)
    simp only [Nat.zero_mul, Nat.add_zero] at q
    rw [q]
    rfl
  have HFi := Lib.hid (fun (W : World) (hw : Only [] w W) => show Calls Try.prog 73 #[.pointer (some ⟨sb, 0, none⟩), .agg #[.slice A x.places.length cap, .int .i64 x.mt.maxCount, .int .i64 x.mt.maxAge, .int .i64 x.mt.before, .int .i64 x.floor, .bool x.deleted], .int .i64 (headId c)] W fun e w' => e = .returned (.int .i64 (s.first x (headId c))) ∧ Only [] W w' from first_any (x := x) (headId c) (h.only0 hw) hx (hp.1.only0 hw))
  have HWr := Lib.hid (fun (W : World) (hw : Only [] w W) => show Calls Try.prog 72 #[.agg #[.slice A x.places.length cap, .int .i64 x.mt.maxCount, .int .i64 x.mt.maxAge, .int .i64 x.mt.before, .int .i64 x.floor, .bool x.deleted]] W fun e w' => e = .returned (.agg #[.int .i64 22, .int .i64 ((x.places.length : Int) - 1), .int .i64 0, .bool false]) ∧ Only [] W w' from wrong_any (x := x) (hp.1.only0 hw) (by omega))
  have HE := Lib.hid (fun W => (expected_any c.expected x.places.length W ⟨by omega, by omega⟩))
  have HK := Lib.hid hk
  clear hk
  have hd0 : 0 < c.events.length := by omega
  obtain ⟨id0, hid0⟩ : ∃ i, i = headId c := ⟨_, rfl⟩
  obtain ⟨f, hf⟩ : ∃ f, f = s.first x (headId c) := ⟨_, rfl⟩
  have HF := Lib.hid hf
  rw [← hf, ← hid0] at HFi
  rw [← hid0] at e0
  clear hf hid0
  have HAg := Lib.hid (fun (W : World) (hw : Only [] w W) => show Calls Try.prog 74 #[.pointer (some ⟨sb, 0, none⟩), .agg #[.int .i64 c.kind, .int .i64 c.time, .string c.stream, .int .i64 c.expected, .slice (some ⟨be, offe, none⟩) c.events.length cap1, .int .i64 c.mt.maxCount, .int .i64 c.mt.maxAge, .int .i64 c.mt.before], .agg #[.slice A x.places.length cap, .int .i64 x.mt.maxCount, .int .i64 x.mt.maxAge, .int .i64 x.mt.before, .int .i64 x.floor, .bool x.deleted], .int .i64 v] W fun e w' => e = .returned (.agg #[.int .i64 (s.again c x v).err, .int .i64 (s.again c x v).version, .int .i64 (s.again c x v).position, .bool (s.again c x v).again]) ∧ Only [] W w' from again_any (x := x) (c := c) (h.only0 hw) hx (hp.1.only0 hw) (he.1.only0 hw) (by omega) ⟨hel1, hel8⟩ (by omega))
  have hfv : f = v := by rw [HF.out, hv]
  rw [hfv] at HFi
  go_enter Try.func39, Try.ntmps39
  go_wp2_with fail
  refine wp_region_in [] [0, 1, 2, 3, 4, 5, 6, 7, 8] [9] [10] (by kernel_rfl) (by kernel_rfl) (by intro c d u a w h; cases d <;> exact h) ?_
  show wpQuiet _ _ _ _ [_, _, _, _, _, _, _, _, _] _
  repeat (go_big_quiet_step (fail))
  refine wpQuiet_nil ?_
  show wpList _ _ _ [_] _ _
  go_wp2_with fail
  refine check_of (S := []) (((Only.refl [] _).alloc _).drew) ?_
  show wpList _ _ _ [_] _ _
  clear F0 X0
  go_wp2_with fail
  have k5 : ∀ o1 o2 o3 o4 o5, Only [] w (((((w.alloc o1).alloc o2).alloc o3).alloc o4).alloc o5).drew := fun o1 o2 o3 o4 o5 => ((h0 o1 o2 o3 o4).alloc o5).drew
  have kH : ∀ cs t o1 o2 o3 o4, Blk (((((w.alloc o1).alloc o2).alloc o3).alloc o4).alloc (.cells cs t)).drew (w.heap.size + 1 + 1 + 1 + 1) t cs := fun cs t o1 o2 o3 o4 => by
    have := (Only.refl [] _).drew.blk (Blk.new ((((w.alloc o1).alloc o2).alloc o3).alloc o4) t cs) (by simp <;> omega)
    simpa using this
  have kX : ∀ cs t o1 o3 o4 o5, Blk (((((w.alloc o1).alloc (.cells cs t)).alloc o3).alloc o4).alloc o5).drew (w.heap.size + 1) t cs := fun cs t o1 o3 o4 o5 => ((Only.refl [] _).alloc o5).drew.blk (kX cs t o1 o3 o4) (by simp <;> omega)
  have kA : ∀ cs t o1 o2 o4 o5, Blk (((((w.alloc o1).alloc o2).alloc (.cells cs t)).alloc o4).alloc o5).drew (w.heap.size + 1 + 1) t cs := fun cs t o1 o2 o4 o5 => ((Only.refl [] _).alloc o5).drew.blk (kA cs t o1 o2 o4) (by simp <;> omega)
  have kY : ∀ cs t o1 o2 o3 o5, Blk (((((w.alloc o1).alloc o2).alloc o3).alloc (.cells cs t)).alloc o5).drew (w.heap.size + 1 + 1 + 1) t cs := fun cs t o1 o2 o3 o5 => ((Only.refl [] _).alloc o5).drew.blk (kY cs t o1 o2 o3) (by simp <;> omega)
  have kS : ∀ o1 o2 o3 o4 o5, StAt (((((w.alloc o1).alloc o2).alloc o3).alloc o4).alloc o5).drew M sb mb av pf s := fun o1 o2 o3 o4 o5 => h.only0 (k5 o1 o2 o3 o4 o5)
  have kC : ∀ cs t o2 o3 o4 o5, Blk (((((w.alloc (.cells cs t)).alloc o2).alloc o3).alloc o4).alloc o5).drew w.heap.size t cs := fun cs t o2 o3 o4 o5 => ((Only.refl [] _).alloc o5).drew.blk (kC cs t o2 o3 o4) (by simp)
  go_wp2_with fail
  have X0 := fun v a b d f g o1 o3 o4 o5 => Within.cell (S := []) ((kX #[v, a, b, d, f, g] 77 o1 o3 o4 o5).cell 0) (by simp)
  have X1 := fun v a b d f g o1 o3 o4 o5 => Within.cell (S := []) ((kX #[v, a, b, d, f, g] 77 o1 o3 o4 o5).cell 1) (by simp)
  have X2 := fun v a b d f g o1 o3 o4 o5 => Within.cell (S := []) ((kX #[v, a, b, d, f, g] 77 o1 o3 o4 o5).cell 2) (by simp)
  have X3 := fun v a b d f g o1 o3 o4 o5 => Within.cell (S := []) ((kX #[v, a, b, d, f, g] 77 o1 o3 o4 o5).cell 3) (by simp)
  have X4 := fun v a b d f g o1 o3 o4 o5 => Within.cell (S := []) ((kX #[v, a, b, d, f, g] 77 o1 o3 o4 o5).cell 4) (by simp)
  have X5 := fun v a b d f g o1 o3 o4 o5 => Within.cell (S := []) ((kX #[v, a, b, d, f, g] 77 o1 o3 o4 o5).cell 5) (by simp)
  have C4 := fun a b d e f g i j k o2 o3 o4 o5 => Within.cell (S := []) ((kC #[a, b, d, e, f, g, i, j, k] 35 o2 o3 o4 o5).cell 4) (by simp)
  have C4' := fun a b d e f g i j o2 o3 o4 o5 => Within.cell (S := []) ((kC #[a, b, d, e, f, g, i, j] 35 o2 o3 o4 o5).cell 4) (by simp)
  have E0 := fun o1 o2 o3 o4 o5 => Within.cell (S := []) (((k5 o1 o2 o3 o4 o5).cell hbe (by simp)).trans e0) (by simp)
  refine wp_region_in [] [0, 1, 2, 3, 4, 5, 6] [] [7, 8] (by kernel_rfl) (by kernel_rfl) (by intro c d u a w h; cases d <;> exact h) ?_
  show wpQuiet _ _ _ _ [_, _, _, _, _, _, _] _
  repeat (go_big_quiet_step (fail))
  refine wpQuiet_nil ?_
  show wpList _ _ _ [_, _] _ _
  clear X0 X1 X2 X3 X4 X5 C4 C4' E0
  go_wp2_with (go_at_call 73; refine (HFi.out _ (k5 _ _ _ _ _).drew).mono ?_; rintro e w1 ⟨rfl, ho1⟩)
  have hO1 : Only [] w w1 := (k5 _ _ _ _ _).drew.trans ho1
  have lC := ho1.blk ((Only.refl [] _).drew.blk (kC _ _ _ _ _ _) (by simp)) (by simp)
  have lX := ho1.blk ((Only.refl [] _).drew.blk (kX _ _ _ _ _ _) (by simp)) (by simp)
  have lA := ho1.blk ((Only.refl [] _).drew.blk (kA _ _ _ _ _ _) (by simp)) (by simp)
  have lY := ho1.blk ((Only.refl [] _).drew.blk (kY _ _ _ _ _ _) (by simp)) (by simp)
  have C0 := Within.cell (S := [w.heap.size + 1 + 1]) (lC.cell 0) (by simp <;> omega)
  have C1 := Within.cell (S := [w.heap.size + 1 + 1]) (lC.cell 1) (by simp <;> omega)
  have C2 := Within.cell (S := [w.heap.size + 1 + 1]) (lC.cell 2) (by simp <;> omega)
  have C3 := Within.cell (S := [w.heap.size + 1 + 1]) (lC.cell 3) (by simp <;> omega)
  have C4 := Within.cell (S := [w.heap.size + 1 + 1]) (lC.cell 4) (by simp <;> omega)
  have C5 := Within.cell (S := [w.heap.size + 1 + 1]) (lC.cell 5) (by simp <;> omega)
  have C6 := Within.cell (S := [w.heap.size + 1 + 1]) (lC.cell 6) (by simp <;> omega)
  have C7 := Within.cell (S := [w.heap.size + 1 + 1]) (lC.cell 7) (by simp <;> omega)
  have X0 := Within.cell (S := [w.heap.size + 1 + 1]) (lX.cell 0) (by simp <;> omega)
  have X1 := Within.cell (S := [w.heap.size + 1 + 1]) (lX.cell 1) (by simp <;> omega)
  have X2 := Within.cell (S := [w.heap.size + 1 + 1]) (lX.cell 2) (by simp <;> omega)
  have X3 := Within.cell (S := [w.heap.size + 1 + 1]) (lX.cell 3) (by simp <;> omega)
  have X4 := Within.cell (S := [w.heap.size + 1 + 1]) (lX.cell 4) (by simp <;> omega)
  have X5 := Within.cell (S := [w.heap.size + 1 + 1]) (lX.cell 5) (by simp <;> omega)
  obtain ⟨an, han⟩ : ∃ an, an = s.again c x v := ⟨_, rfl⟩
  rw [← han] at HAg
  have HAN := Lib.hid han
  clear han
  refine wp_region_in [w.heap.size + 1 + 1] [0, 1, 2, 3, 5] [4, 6] [7] (by kernel_rfl) (by kernel_rfl) (by intro c d u a w h; cases d <;> exact h) ?_
  show wpQuiet _ _ _ _ [_, _, _, _, _] _
  repeat (go_big_quiet_step (fail))
  refine wpQuiet_nil ?_
  show wpList _ _ _ [_] _ _
  go_wp2_with (go_at_call 74; refine (HAg.out _ hO1.drew).mono ?_; rintro e w2 ⟨rfl, ho2⟩)
  refine check_of (S := [w.heap.size + 1 + 1]) (((Only.refl [] _).drew.trans ho2).of_nil) ?_
  show wpList _ _ _ [_] _ _
  have ho2' := (Only.refl [] w1).drew.trans ho2
  have hA1 := fun i => (ho2'.blk lA (by simp)).cell i
  have hA1f := fun i => (ho2'.blk lA (by simp)).free i
  have hY1 := fun i => (ho2'.blk lY (by simp)).cell i
  have hY1f := fun i => (ho2'.blk lY (by simp)).free i
  go_wp2_with fail
  refine check_of (S := [w.heap.size + 1 + 1]) (by repeat (first | exact ((Only.refl [] _).drew.trans ho2).of_nil | refine Only.drew ?_ | refine Only.setCell ?_ (.inl (by simp)) _)) ?_
  show wpList _ _ _ [_] _ _
  go_wp2
  have hR := HR.out
  subst hR
  clear HR C0 C1 C2 C3 C4 C5 C6 C7 X0 X1 X2 X3 X4 X5
  refine bodyPost_ret (v := .tuple #[.agg #[.int .i64 an.err, .int .i64 an.version, .int .i64 an.position, .bool an.again], .agg #[.slice A x.places.length cap, .int .i64 x.mt.maxCount, .int .i64 x.mt.maxAge, .int .i64 x.mt.before, .int .i64 x.floor, .bool x.deleted]]) (by simp [results, Try.results39, go_sem, hA1, hY1]) rfl ⟨.slice A x.places.length cap, ?_⟩
  have hE : s.act c x = (an, x, s) := by
    have h1 := HK.out
    have h2 := HF.out
    unfold MS.act
    rw [if_neg h1.1, if_neg h1.2]
    show (if 0 ≤ s.first x (headId c) then (s.again c x (s.first x (headId c)), x, s) else _) = _
    rw [hv, if_pos (by omega), HAN.out]
  rw [hE]
  refine ⟨rfl, ActLeads.same h hp ?hw⟩
  case hw =>
    iterate 10 (refine Only.setCell ?_ (.inr (by simp <;> omega)) _)
    exact hO1.drew.trans ho2
set_option maxRecDepth 100000 in
set_option maxHeartbeats 4000000 in
theorem act_late {w : World} {M : List Nat} {sb mb : Nat} {av pv ev : Value} {pf : ByteArray → Value} {s : MS} {x : StreamR} {c : Cmd} (h : StAt w M sb mb av pf s) (hx : XOk s x) (hp : Rd M w 1 pv x.places.length (ints x.places))
    (he : Rd M w 4 ev c.events.length (c.events.flatMap EventR.cells)) (hl : s.all.length ≤ 1000000) (hk : c.kind ≠ 2 ∧ c.kind ≠ 3) (hel : 1 ≤ c.events.length ∧ c.events.length ≤ 8) (hv : s.first x (headId c) = -1) (hexp : expected c.expected x.places.length = false) :
    Calls Try.prog 39 #[.pointer (some ⟨sb, 0, none⟩), c.val ev, x.val pv] w fun e w' => ∃ pv', e = .returned (.tuple #[(s.act c x).1.val, (s.act c x).2.1.val pv']) ∧ ActLeads w M sb mb av pf (s.act c x).2.1 (s.act c x).2.2 pv' w' := by
  obtain ⟨A, cap, hpv, hn1, hn2, hps⟩ := hp.1.openI
  obtain ⟨A1, cap1, hev, hn3, hn4, hes⟩ := he.1.openE EventR.cells (fun _ => rfl)
  obtain ⟨A2, cap2, hav, hnc2, hcm2, hel2⟩ := h.cell
  unfold maxLen at hn2 hn4 hcm2
  have hfew := hx.few
  have hsb := h.blk.lt
  have h0 : ∀ o1 o2 o3 o4, Only [] w ((((w.alloc o1).alloc o2).alloc o3).alloc o4) := fun o1 o2 o3 o4 => ((((Only.refl [] w).alloc _).alloc _).alloc _).alloc _
  have kC : ∀ cs t o2 o3 o4, Blk ((((w.alloc (.cells cs t)).alloc o2).alloc o3).alloc o4) w.heap.size t cs := fun cs t o2 o3 o4 => ((((Only.refl [] _).alloc o2).alloc o3).alloc o4).blk (Blk.new w t cs) (by simp)
  have kX : ∀ cs t o1 o3 o4, Blk ((((w.alloc o1).alloc (.cells cs t)).alloc o3).alloc o4) (w.heap.size + 1) t cs := fun cs t o1 o3 o4 => by
    have := (((Only.refl [] _).alloc o3).alloc o4).blk (Blk.new (w.alloc o1) t cs) (by simp)
    simpa using this
  have kA : ∀ cs t o1 o2 o4, Blk ((((w.alloc o1).alloc o2).alloc (.cells cs t)).alloc o4) (w.heap.size + 1 + 1) t cs := fun cs t o1 o2 o4 => by
    have := ((Only.refl [] _).alloc o4).blk (Blk.new ((w.alloc o1).alloc o2) t cs) (by simp)
    simpa using this
  have kY : ∀ cs t o1 o2 o3, Blk ((((w.alloc o1).alloc o2).alloc o3).alloc (.cells cs t)) (w.heap.size + 1 + 1 + 1) t cs := fun cs t o1 o2 o3 => by
    have := Blk.new (((w.alloc o1).alloc o2).alloc o3) t cs
    simpa using this
  have c0 : w.cell? ⟨sb, 0, none⟩ = some (.slice A2 s.all.length cap2) := by rw [← hav]; exact h.blk.cell 0
  have F0 := fun o1 o2 o3 o4 => Within.cell (S := []) (((h0 o1 o2 o3 o4).cell hsb (by simp)).trans c0) (by simp)
  have X0 := fun v a b d f g t o1 o3 o4 => Within.cell (S := []) ((kX #[v, a, b, d, f, g] t o1 o3 o4).cell 0) (by simp)
  subst hpv hev
  obtain ⟨R, hR⟩ : ∃ R, R = s.act c x := ⟨_, rfl⟩
  rw [← hR]
  have HR := Lib.hid hR
  clear hR c0
  rw [show c.val (.slice A1 c.events.length cap1) = .agg #[.int .i64 c.kind, .int .i64 c.time, .string c.stream, .int .i64 c.expected, .slice A1 c.events.length cap1, .int .i64 c.mt.maxCount, .int .i64 c.mt.maxAge, .int .i64 c.mt.before] from rfl,
    show x.val (.slice A x.places.length cap) = .agg #[.slice A x.places.length cap, .int .i64 x.mt.maxCount, .int .i64 x.mt.maxAge, .int .i64 x.mt.before, .int .i64 x.floor, .bool x.deleted] from rfl]
  have hk1 : ((c.kind : Int) == 2) = false := by rw [beq_eq_false_iff_ne]; omega
  have hk2 : ((c.kind : Int) == 3) = false := by rw [beq_eq_false_iff_ne]; omega
  obtain ⟨hel1, hel8⟩ := hel
  obtain ⟨be, offe, rfl, hbe, hce⟩ := hes 0 (by omega)
  have e0 : w.cell? ⟨be, offe, none⟩ = some (.int .i64 (headId c)) := by
    rw [headId_at (by omega)]
    have q := hce 0 (by omega)
    simp only [Nat.zero_mul, Nat.add_zero] at q
    rw [q]
    rfl
  have HFi := Lib.hid (fun (W : World) (hw : Only [] w W) => show Calls Try.prog 73 #[.pointer (some ⟨sb, 0, none⟩), .agg #[.slice A x.places.length cap, .int .i64 x.mt.maxCount, .int .i64 x.mt.maxAge, .int .i64 x.mt.before, .int .i64 x.floor, .bool x.deleted], .int .i64 (headId c)] W fun e w' => e = .returned (.int .i64 (s.first x (headId c))) ∧ Only [] W w' from first_any (x := x) (headId c) (h.only0 hw) hx (hp.1.only0 hw))
  have HWr := Lib.hid (fun (W : World) (hw : Only [] w W) => show Calls Try.prog 72 #[.agg #[.slice A x.places.length cap, .int .i64 x.mt.maxCount, .int .i64 x.mt.maxAge, .int .i64 x.mt.before, .int .i64 x.floor, .bool x.deleted]] W fun e w' => e = .returned (.agg #[.int .i64 22, .int .i64 ((x.places.length : Int) - 1), .int .i64 0, .bool false]) ∧ Only [] W w' from wrong_any (x := x) (hp.1.only0 hw) (by omega))
  have HE := Lib.hid (fun W => (expected_any c.expected x.places.length W ⟨by omega, by omega⟩))
  have HK := Lib.hid hk
  clear hk
  have hd0 : 0 < c.events.length := by omega
  obtain ⟨id0, hid0⟩ : ∃ i, i = headId c := ⟨_, rfl⟩
  obtain ⟨f, hf⟩ : ∃ f, f = s.first x (headId c) := ⟨_, rfl⟩
  have HF := Lib.hid hf
  rw [← hf, ← hid0] at HFi
  rw [← hid0] at e0
  clear hf hid0
  have hfv : f = -1 := by rw [HF.out, hv]
  rw [hfv] at HFi
  rw [hexp] at HE
  have HX := Lib.hid hexp
  clear hexp
  go_enter Try.func39, Try.ntmps39
  go_wp2_with fail
  refine wp_region_in [] [0, 1, 2, 3, 4, 5, 6, 7, 8] [9] [10] (by kernel_rfl) (by kernel_rfl) (by intro c d u a w h; cases d <;> exact h) ?_
  show wpQuiet _ _ _ _ [_, _, _, _, _, _, _, _, _] _
  repeat (go_big_quiet_step (fail))
  refine wpQuiet_nil ?_
  show wpList _ _ _ [_] _ _
  go_wp2_with fail
  refine check_of (S := []) (((Only.refl [] _).alloc _).drew) ?_
  show wpList _ _ _ [_] _ _
  clear F0 X0
  go_wp2_with fail
  have k5 : ∀ o1 o2 o3 o4 o5, Only [] w (((((w.alloc o1).alloc o2).alloc o3).alloc o4).alloc o5).drew := fun o1 o2 o3 o4 o5 => ((h0 o1 o2 o3 o4).alloc o5).drew
  have kH : ∀ cs t o1 o2 o3 o4, Blk (((((w.alloc o1).alloc o2).alloc o3).alloc o4).alloc (.cells cs t)).drew (w.heap.size + 1 + 1 + 1 + 1) t cs := fun cs t o1 o2 o3 o4 => by
    have := (Only.refl [] _).drew.blk (Blk.new ((((w.alloc o1).alloc o2).alloc o3).alloc o4) t cs) (by simp <;> omega)
    simpa using this
  have kX : ∀ cs t o1 o3 o4 o5, Blk (((((w.alloc o1).alloc (.cells cs t)).alloc o3).alloc o4).alloc o5).drew (w.heap.size + 1) t cs := fun cs t o1 o3 o4 o5 => ((Only.refl [] _).alloc o5).drew.blk (kX cs t o1 o3 o4) (by simp <;> omega)
  have kA : ∀ cs t o1 o2 o4 o5, Blk (((((w.alloc o1).alloc o2).alloc (.cells cs t)).alloc o4).alloc o5).drew (w.heap.size + 1 + 1) t cs := fun cs t o1 o2 o4 o5 => ((Only.refl [] _).alloc o5).drew.blk (kA cs t o1 o2 o4) (by simp <;> omega)
  have kY : ∀ cs t o1 o2 o3 o5, Blk (((((w.alloc o1).alloc o2).alloc o3).alloc (.cells cs t)).alloc o5).drew (w.heap.size + 1 + 1 + 1) t cs := fun cs t o1 o2 o3 o5 => ((Only.refl [] _).alloc o5).drew.blk (kY cs t o1 o2 o3) (by simp <;> omega)
  have kS : ∀ o1 o2 o3 o4 o5, StAt (((((w.alloc o1).alloc o2).alloc o3).alloc o4).alloc o5).drew M sb mb av pf s := fun o1 o2 o3 o4 o5 => h.only0 (k5 o1 o2 o3 o4 o5)
  have kC : ∀ cs t o2 o3 o4 o5, Blk (((((w.alloc (.cells cs t)).alloc o2).alloc o3).alloc o4).alloc o5).drew w.heap.size t cs := fun cs t o2 o3 o4 o5 => ((Only.refl [] _).alloc o5).drew.blk (kC cs t o2 o3 o4) (by simp)
  go_wp2_with fail
  have X0 := fun v a b d f g o1 o3 o4 o5 => Within.cell (S := []) ((kX #[v, a, b, d, f, g] 77 o1 o3 o4 o5).cell 0) (by simp)
  have X1 := fun v a b d f g o1 o3 o4 o5 => Within.cell (S := []) ((kX #[v, a, b, d, f, g] 77 o1 o3 o4 o5).cell 1) (by simp)
  have X2 := fun v a b d f g o1 o3 o4 o5 => Within.cell (S := []) ((kX #[v, a, b, d, f, g] 77 o1 o3 o4 o5).cell 2) (by simp)
  have X3 := fun v a b d f g o1 o3 o4 o5 => Within.cell (S := []) ((kX #[v, a, b, d, f, g] 77 o1 o3 o4 o5).cell 3) (by simp)
  have X4 := fun v a b d f g o1 o3 o4 o5 => Within.cell (S := []) ((kX #[v, a, b, d, f, g] 77 o1 o3 o4 o5).cell 4) (by simp)
  have X5 := fun v a b d f g o1 o3 o4 o5 => Within.cell (S := []) ((kX #[v, a, b, d, f, g] 77 o1 o3 o4 o5).cell 5) (by simp)
  have C4 := fun a b d e f g i j k o2 o3 o4 o5 => Within.cell (S := []) ((kC #[a, b, d, e, f, g, i, j, k] 35 o2 o3 o4 o5).cell 4) (by simp)
  have C4' := fun a b d e f g i j o2 o3 o4 o5 => Within.cell (S := []) ((kC #[a, b, d, e, f, g, i, j] 35 o2 o3 o4 o5).cell 4) (by simp)
  have E0 := fun o1 o2 o3 o4 o5 => Within.cell (S := []) (((k5 o1 o2 o3 o4 o5).cell hbe (by simp)).trans e0) (by simp)
  refine wp_region_in [] [0, 1, 2, 3, 4, 5, 6] [] [7, 8] (by kernel_rfl) (by kernel_rfl) (by intro c d u a w h; cases d <;> exact h) ?_
  show wpQuiet _ _ _ _ [_, _, _, _, _, _, _] _
  repeat (go_big_quiet_step (fail))
  refine wpQuiet_nil ?_
  show wpList _ _ _ [_, _] _ _
  clear X0 X1 X2 X3 X4 X5 C4 C4' E0
  go_wp2_with (first
    | (go_at_call 73; refine (HFi.out _ (k5 _ _ _ _ _).drew).mono ?_; rintro e w1 ⟨rfl, ho1⟩; have rC := fun i => (ho1.blk ((Only.refl [] _).drew.blk (kC _ _ _ _ _ _) (by simp)) (by simp)).cell i; have rX := fun i => (ho1.blk ((Only.refl [] _).drew.blk (kX _ _ _ _ _ _) (by simp)) (by simp)).cell i)
    | (go_at_call 71; refine (HE.out _).mono ?_; rintro e w2 ⟨rfl, hWE⟩; subst hWE))
  have hO1 : Only [] w w1 := (k5 _ _ _ _ _).drew.trans ho1
  have lC := ho1.blk ((Only.refl [] _).drew.blk (kC _ _ _ _ _ _) (by simp)) (by simp)
  have lX := ho1.blk ((Only.refl [] _).drew.blk (kX _ _ _ _ _ _) (by simp)) (by simp)
  have lA := ho1.blk ((Only.refl [] _).drew.blk (kA _ _ _ _ _ _) (by simp)) (by simp)
  have lY := ho1.blk ((Only.refl [] _).drew.blk (kY _ _ _ _ _ _) (by simp)) (by simp)
  have C0 := Within.cell (S := [w.heap.size + 1 + 1]) (lC.cell 0) (by simp <;> omega)
  have C1 := Within.cell (S := [w.heap.size + 1 + 1]) (lC.cell 1) (by simp <;> omega)
  have C2 := Within.cell (S := [w.heap.size + 1 + 1]) (lC.cell 2) (by simp <;> omega)
  have C3 := Within.cell (S := [w.heap.size + 1 + 1]) (lC.cell 3) (by simp <;> omega)
  have C4 := Within.cell (S := [w.heap.size + 1 + 1]) (lC.cell 4) (by simp <;> omega)
  have C5 := Within.cell (S := [w.heap.size + 1 + 1]) (lC.cell 5) (by simp <;> omega)
  have C6 := Within.cell (S := [w.heap.size + 1 + 1]) (lC.cell 6) (by simp <;> omega)
  have C7 := Within.cell (S := [w.heap.size + 1 + 1]) (lC.cell 7) (by simp <;> omega)
  have X0 := Within.cell (S := [w.heap.size + 1 + 1]) (lX.cell 0) (by simp <;> omega)
  have X1 := Within.cell (S := [w.heap.size + 1 + 1]) (lX.cell 1) (by simp <;> omega)
  have X2 := Within.cell (S := [w.heap.size + 1 + 1]) (lX.cell 2) (by simp <;> omega)
  have X3 := Within.cell (S := [w.heap.size + 1 + 1]) (lX.cell 3) (by simp <;> omega)
  have X4 := Within.cell (S := [w.heap.size + 1 + 1]) (lX.cell 4) (by simp <;> omega)
  have X5 := Within.cell (S := [w.heap.size + 1 + 1]) (lX.cell 5) (by simp <;> omega)
  clear rC rX
  refine wp_region_in [w.heap.size + 1 + 1] [0, 2] [1, 3] [4] (by kernel_rfl) (by kernel_rfl) (by intro c d u a w h; cases d <;> exact h) ?_
  show wpQuiet _ _ _ _ [_, _] _
  repeat (go_big_quiet_step (fail))
  refine wpQuiet_nil ?_
  show wpList _ _ _ [_] _ _
  go_wp2_with (go_at_call 72; refine (HWr.out _ hO1.drew).mono ?_; rintro e w2 ⟨rfl, ho2⟩)
  refine check_of (S := [w.heap.size + 1 + 1]) (((Only.refl [] _).drew.trans ho2).of_nil) ?_
  show wpList _ _ _ [_] _ _
  have ho2' := (Only.refl [] w1).drew.trans ho2
  have hA1 := fun i => (ho2'.blk lA (by simp)).cell i
  have hA1f := fun i => (ho2'.blk lA (by simp)).free i
  have hY1 := fun i => (ho2'.blk lY (by simp)).cell i
  have hY1f := fun i => (ho2'.blk lY (by simp)).free i
  go_wp2_with fail
  refine check_of (S := [w.heap.size + 1 + 1]) (by repeat (first | exact ((Only.refl [] _).drew.trans ho2).of_nil | refine Only.drew ?_ | refine Only.setCell ?_ (.inl (by simp)) _)) ?_
  show wpList _ _ _ [_] _ _
  go_wp2
  have hR := HR.out
  subst hR
  clear HR C0 C1 C2 C3 C4 C5 C6 C7 X0 X1 X2 X3 X4 X5
  refine bodyPost_ret (v := .tuple #[.agg #[.int .i64 22, .int .i64 ((x.places.length : Int) - 1), .int .i64 0, .bool false], .agg #[.slice A x.places.length cap, .int .i64 x.mt.maxCount, .int .i64 x.mt.maxAge, .int .i64 x.mt.before, .int .i64 x.floor, .bool x.deleted]]) (by simp [results, Try.results39, go_sem, hA1, hY1]) rfl ⟨.slice A x.places.length cap, ?_⟩
  have hE : s.act c x = (wrong x, x, s) := by
    have h1 := HK.out
    unfold MS.act
    rw [if_neg h1.1, if_neg h1.2]
    show (if 0 ≤ s.first x (headId c) then (s.again c x (s.first x (headId c)), x, s) else _) = _
    rw [hv, if_neg (by omega), HX.out, if_neg (by decide)]
  rw [hE]
  refine ⟨rfl, ActLeads.same h hp ?hw⟩
  case hw =>
    iterate 10 (refine Only.setCell ?_ (.inr (by simp <;> omega)) _)
    exact hO1.drew.trans ho2
theorem ActLeads.of_app {w w1 w2 w3 : World} {M S : List Nat} {sb mb : Nat} {av avr pv' : Value} {pf : ByteArray → Value} {s s' : MS} {y : StreamR} (h : StAt w M sb mb av pf s) (hO1 : Only [] w w1) (hst : StAt w2 (avr.ownBlock.toList ++ M) sb mb avr pf s')
    (hrd : Rd (avr.ownBlock.toList ++ M) w2 1 pv' y.places.length (ints y.places)) (ho2 : Only (hM sb mb av) w1 w2) (hav : ∀ g, avr.ownBlock = some g → av.ownBlock = some g ∨ w1.heap.size ≤ g) (hpv : ∀ g, pv'.ownBlock = some g → w1.heap.size ≤ g)
    (hO3 : Only S w2 w3) (hS : ∀ g ∈ S, w.heap.size ≤ g ∧ g < w1.heap.size) (hm : s'.m = s.m) : ActLeads w M sb mb av pf y s' pv' w3 := by
  have hw3 : Only (hM sb mb av) w w3 := (hO1.of_nil.trans ho2).step hO3 (fun i hi => .inr (hS i hi).1)
  have hnS : ∀ g, g < w.heap.size → g ∉ S := fun g hg q => by have := (hS g q).1; omega
  have hnS' : ∀ g, w1.heap.size ≤ g → g ∉ S := fun g hg q => by have := (hS g q).2; omega
  have hs1 := hO1.size
  have hnew : ∀ g ∈ avr.ownBlock.toList ++ M, g ∈ M ∨ w.heap.size ≤ g := fun g hg => by
    rcases List.mem_append.1 hg with q | q
    · rcases hav g (by simpa using q) with r | r
      · exact .inl (h.inM.2.2 g r)
      · exact .inr (by omega)
    · exact .inl q
  refine ⟨avr.ownBlock.toList ++ M, avr, ⟨hO3.blk hst.blk (hnS _ h.blk.lt), own_only hst.own hO3 fun g hg => ?_, hst.map.only hO3 (hnS _ h.map.lt), fun n x hx => ?_, hst.inM, fun g hg => Nat.lt_of_lt_of_le (hst.mlt g hg) hO3.size⟩, ⟨hrd.1.only hO3 fun g hg => hnS' g (hpv g hg), fun g hg => (hrd.2 g hg).imp (fun q => ⟨q.1, Nat.lt_of_lt_of_le q.2 hO3.size⟩) id⟩, hw3, fun g hg => List.mem_append_right _ hg, hnew, fun g hg => (hav g hg).imp id (fun q => by omega)⟩
  · rcases hav g hg with q | q
    · exact hnS g (h.own_lt g q)
    · exact hnS' g q
  · rw [hm] at hx
    exact ((h.pl n x hx).ext hnew).only hw3 (fun g hg => List.mem_append_right _ (h.hMM g hg))
theorem append_lit {q : Ans × StreamR × MS} {w : World} {M : List Nat} {sb mb : Nat} {av pv ev : Value} {pf : ByteArray → Value} {s : MS} {x : StreamR} {c : Cmd} (hq : q = s.append c x) (h : StAt w M sb mb av pf s) (hx : XOk s x) (hp : Rd M w 1 pv x.places.length (ints x.places))
    (he : Rd M w 4 ev c.events.length (c.events.flatMap EventR.cells)) (hl : s.all.length ≤ 1000000) (hel : 1 ≤ c.events.length ∧ c.events.length ≤ 8) (hn : 0 ≤ s.now ∧ s.now ≤ 1099511627776) :
    Calls Try.prog 75 #[.pointer (some ⟨sb, 0, none⟩), c.val ev, x.val pv] w fun e w' => ∃ Aq capq avr, e = .returned (.tuple #[.agg #[.int .i64 q.1.err, .int .i64 q.1.version, .int .i64 q.1.position, .bool q.1.again], .agg #[.slice Aq q.2.1.places.length capq, .int .i64 q.2.1.mt.maxCount, .int .i64 q.2.1.mt.maxAge, .int .i64 q.2.1.mt.before, .int .i64 q.2.1.floor, .bool q.2.1.deleted]]) ∧
      StAt w' (avr.ownBlock.toList ++ M) sb mb avr pf q.2.2 ∧ Rd (avr.ownBlock.toList ++ M) w' 1 (.slice Aq q.2.1.places.length capq) q.2.1.places.length (ints q.2.1.places) ∧ Only (hM sb mb av) w w' ∧ (∀ g, avr.ownBlock = some g → av.ownBlock = some g ∨ w.heap.size ≤ g) ∧ (∀ g, (Value.slice Aq q.2.1.places.length capq).ownBlock = some g → w.heap.size ≤ g) := by
  subst hq
  refine (append_any h hx hp he hl hel hn).mono ?_
  rintro e w' ⟨pv', avr, rfl, h1, h2, h3, h4, h5⟩
  obtain ⟨A, cap, rfl, _⟩ := h2.1.openI
  exact ⟨A, cap, avr, rfl, h1, h2, h3, h4, h5⟩
set_option maxRecDepth 100000 in
set_option maxHeartbeats 4000000 in
theorem act_append {w : World} {M : List Nat} {sb mb : Nat} {av pv ev : Value} {pf : ByteArray → Value} {s : MS} {x : StreamR} {c : Cmd} (h : StAt w M sb mb av pf s) (hx : XOk s x) (hp : Rd M w 1 pv x.places.length (ints x.places))
    (he : Rd M w 4 ev c.events.length (c.events.flatMap EventR.cells)) (hl : s.all.length ≤ 1000000) (hk : c.kind ≠ 2 ∧ c.kind ≠ 3) (hel : 1 ≤ c.events.length ∧ c.events.length ≤ 8) (hn : 0 ≤ s.now ∧ s.now ≤ 1099511627776) (hv : s.first x (headId c) = -1) (hexp : expected c.expected x.places.length = true) :
    Calls Try.prog 39 #[.pointer (some ⟨sb, 0, none⟩), c.val ev, x.val pv] w fun e w' => ∃ pv', e = .returned (.tuple #[(s.act c x).1.val, (s.act c x).2.1.val pv']) ∧ ActLeads w M sb mb av pf (s.act c x).2.1 (s.act c x).2.2 pv' w' := by
  obtain ⟨A, cap, hpv, hn1, hn2, hps⟩ := hp.1.openI
  obtain ⟨A1, cap1, hev, hn3, hn4, hes⟩ := he.1.openE EventR.cells (fun _ => rfl)
  obtain ⟨A2, cap2, hav, hnc2, hcm2, hel2⟩ := h.cell
  unfold maxLen at hn2 hn4 hcm2
  have hfew := hx.few
  have hsb := h.blk.lt
  have h0 : ∀ o1 o2 o3 o4, Only [] w ((((w.alloc o1).alloc o2).alloc o3).alloc o4) := fun o1 o2 o3 o4 => ((((Only.refl [] w).alloc _).alloc _).alloc _).alloc _
  have kC : ∀ cs t o2 o3 o4, Blk ((((w.alloc (.cells cs t)).alloc o2).alloc o3).alloc o4) w.heap.size t cs := fun cs t o2 o3 o4 => ((((Only.refl [] _).alloc o2).alloc o3).alloc o4).blk (Blk.new w t cs) (by simp)
  have kX : ∀ cs t o1 o3 o4, Blk ((((w.alloc o1).alloc (.cells cs t)).alloc o3).alloc o4) (w.heap.size + 1) t cs := fun cs t o1 o3 o4 => by
    have := (((Only.refl [] _).alloc o3).alloc o4).blk (Blk.new (w.alloc o1) t cs) (by simp)
    simpa using this
  have kA : ∀ cs t o1 o2 o4, Blk ((((w.alloc o1).alloc o2).alloc (.cells cs t)).alloc o4) (w.heap.size + 1 + 1) t cs := fun cs t o1 o2 o4 => by
    have := ((Only.refl [] _).alloc o4).blk (Blk.new ((w.alloc o1).alloc o2) t cs) (by simp)
    simpa using this
  have kY : ∀ cs t o1 o2 o3, Blk ((((w.alloc o1).alloc o2).alloc o3).alloc (.cells cs t)) (w.heap.size + 1 + 1 + 1) t cs := fun cs t o1 o2 o3 => by
    have := Blk.new (((w.alloc o1).alloc o2).alloc o3) t cs
    simpa using this
  have c0 : w.cell? ⟨sb, 0, none⟩ = some (.slice A2 s.all.length cap2) := by rw [← hav]; exact h.blk.cell 0
  have F0 := fun o1 o2 o3 o4 => Within.cell (S := []) (((h0 o1 o2 o3 o4).cell hsb (by simp)).trans c0) (by simp)
  have X0 := fun v a b d f g t o1 o3 o4 => Within.cell (S := []) ((kX #[v, a, b, d, f, g] t o1 o3 o4).cell 0) (by simp)
  subst hpv hev
  obtain ⟨R, hR⟩ : ∃ R, R = s.act c x := ⟨_, rfl⟩
  rw [← hR]
  have HR := Lib.hid hR
  clear hR c0
  rw [show c.val (.slice A1 c.events.length cap1) = .agg #[.int .i64 c.kind, .int .i64 c.time, .string c.stream, .int .i64 c.expected, .slice A1 c.events.length cap1, .int .i64 c.mt.maxCount, .int .i64 c.mt.maxAge, .int .i64 c.mt.before] from rfl,
    show x.val (.slice A x.places.length cap) = .agg #[.slice A x.places.length cap, .int .i64 x.mt.maxCount, .int .i64 x.mt.maxAge, .int .i64 x.mt.before, .int .i64 x.floor, .bool x.deleted] from rfl]
  have hk1 : ((c.kind : Int) == 2) = false := by rw [beq_eq_false_iff_ne]; omega
  have hk2 : ((c.kind : Int) == 3) = false := by rw [beq_eq_false_iff_ne]; omega
  obtain ⟨hel1, hel8⟩ := hel
  obtain ⟨be, offe, rfl, hbe, hce⟩ := hes 0 (by omega)
  have e0 : w.cell? ⟨be, offe, none⟩ = some (.int .i64 (headId c)) := by
    rw [headId_at (by omega)]
    have q := hce 0 (by omega)
    simp only [Nat.zero_mul, Nat.add_zero] at q
    rw [q]
    rfl
  have HFi := Lib.hid (fun (W : World) (hw : Only [] w W) => show Calls Try.prog 73 #[.pointer (some ⟨sb, 0, none⟩), .agg #[.slice A x.places.length cap, .int .i64 x.mt.maxCount, .int .i64 x.mt.maxAge, .int .i64 x.mt.before, .int .i64 x.floor, .bool x.deleted], .int .i64 (headId c)] W fun e w' => e = .returned (.int .i64 (s.first x (headId c))) ∧ Only [] W w' from first_any (x := x) (headId c) (h.only0 hw) hx (hp.1.only0 hw))
  have HWr := Lib.hid (fun (W : World) (hw : Only [] w W) => show Calls Try.prog 72 #[.agg #[.slice A x.places.length cap, .int .i64 x.mt.maxCount, .int .i64 x.mt.maxAge, .int .i64 x.mt.before, .int .i64 x.floor, .bool x.deleted]] W fun e w' => e = .returned (.agg #[.int .i64 22, .int .i64 ((x.places.length : Int) - 1), .int .i64 0, .bool false]) ∧ Only [] W w' from wrong_any (x := x) (hp.1.only0 hw) (by omega))
  have HE := Lib.hid (fun W => (expected_any c.expected x.places.length W ⟨by omega, by omega⟩))
  have HK := Lib.hid hk
  clear hk
  have hd0 : 0 < c.events.length := by omega
  obtain ⟨id0, hid0⟩ : ∃ i, i = headId c := ⟨_, rfl⟩
  obtain ⟨f, hf⟩ : ∃ f, f = s.first x (headId c) := ⟨_, rfl⟩
  have HF := Lib.hid hf
  rw [← hf, ← hid0] at HFi
  rw [← hid0] at e0
  clear hf hid0
  have hfv : f = -1 := by rw [HF.out, hv]
  rw [hfv] at HFi
  rw [hexp] at HE
  have HX := Lib.hid hexp
  clear hexp
  obtain ⟨q, hq⟩ : ∃ q, q = s.append c x := ⟨_, rfl⟩
  have HAp := Lib.hid (fun (W : World) (hw : Only [] w W) => (append_lit hq (x := x) (c := c) (ev := .slice (some ⟨be, offe, none⟩) c.events.length cap1) (pv := .slice A x.places.length cap) (h.only0 hw) hx (hp.only0 hw) (he.only0 hw) (by omega) ⟨hel1, hel8⟩ hn : Calls Try.prog 75 #[.pointer (some ⟨sb, 0, none⟩), .agg #[.int .i64 c.kind, .int .i64 c.time, .string c.stream, .int .i64 c.expected, .slice (some ⟨be, offe, none⟩) c.events.length cap1, .int .i64 c.mt.maxCount, .int .i64 c.mt.maxAge, .int .i64 c.mt.before], .agg #[.slice A x.places.length cap, .int .i64 x.mt.maxCount, .int .i64 x.mt.maxAge, .int .i64 x.mt.before, .int .i64 x.floor, .bool x.deleted]] W _))
  have hML : ∀ g ∈ hM sb mb av, g < w.heap.size := h.lt
  have hMn : ∀ g, w.heap.size ≤ g → g ∉ hM sb mb av := fun g hg q => by have := hML g q; omega
  have HQ := Lib.hid hq
  clear hq
  go_enter Try.func39, Try.ntmps39
  go_wp2_with fail
  refine wp_region_in [] [0, 1, 2, 3, 4, 5, 6, 7, 8] [9] [10] (by kernel_rfl) (by kernel_rfl) (by intro c d u a w h; cases d <;> exact h) ?_
  show wpQuiet _ _ _ _ [_, _, _, _, _, _, _, _, _] _
  repeat (go_big_quiet_step (fail))
  refine wpQuiet_nil ?_
  show wpList _ _ _ [_] _ _
  go_wp2_with fail
  refine check_of (S := []) (((Only.refl [] _).alloc _).drew) ?_
  show wpList _ _ _ [_] _ _
  clear F0 X0
  go_wp2_with fail
  have k5 : ∀ o1 o2 o3 o4 o5, Only [] w (((((w.alloc o1).alloc o2).alloc o3).alloc o4).alloc o5).drew := fun o1 o2 o3 o4 o5 => ((h0 o1 o2 o3 o4).alloc o5).drew
  have kH : ∀ cs t o1 o2 o3 o4, Blk (((((w.alloc o1).alloc o2).alloc o3).alloc o4).alloc (.cells cs t)).drew (w.heap.size + 1 + 1 + 1 + 1) t cs := fun cs t o1 o2 o3 o4 => by
    have := (Only.refl [] _).drew.blk (Blk.new ((((w.alloc o1).alloc o2).alloc o3).alloc o4) t cs) (by simp <;> omega)
    simpa using this
  have kX : ∀ cs t o1 o3 o4 o5, Blk (((((w.alloc o1).alloc (.cells cs t)).alloc o3).alloc o4).alloc o5).drew (w.heap.size + 1) t cs := fun cs t o1 o3 o4 o5 => ((Only.refl [] _).alloc o5).drew.blk (kX cs t o1 o3 o4) (by simp <;> omega)
  have kA : ∀ cs t o1 o2 o4 o5, Blk (((((w.alloc o1).alloc o2).alloc (.cells cs t)).alloc o4).alloc o5).drew (w.heap.size + 1 + 1) t cs := fun cs t o1 o2 o4 o5 => ((Only.refl [] _).alloc o5).drew.blk (kA cs t o1 o2 o4) (by simp <;> omega)
  have kY : ∀ cs t o1 o2 o3 o5, Blk (((((w.alloc o1).alloc o2).alloc o3).alloc (.cells cs t)).alloc o5).drew (w.heap.size + 1 + 1 + 1) t cs := fun cs t o1 o2 o3 o5 => ((Only.refl [] _).alloc o5).drew.blk (kY cs t o1 o2 o3) (by simp <;> omega)
  have kS : ∀ o1 o2 o3 o4 o5, StAt (((((w.alloc o1).alloc o2).alloc o3).alloc o4).alloc o5).drew M sb mb av pf s := fun o1 o2 o3 o4 o5 => h.only0 (k5 o1 o2 o3 o4 o5)
  have kC : ∀ cs t o2 o3 o4 o5, Blk (((((w.alloc (.cells cs t)).alloc o2).alloc o3).alloc o4).alloc o5).drew w.heap.size t cs := fun cs t o2 o3 o4 o5 => ((Only.refl [] _).alloc o5).drew.blk (kC cs t o2 o3 o4) (by simp)
  go_wp2_with fail
  have X0 := fun v a b d f g o1 o3 o4 o5 => Within.cell (S := []) ((kX #[v, a, b, d, f, g] 77 o1 o3 o4 o5).cell 0) (by simp)
  have X1 := fun v a b d f g o1 o3 o4 o5 => Within.cell (S := []) ((kX #[v, a, b, d, f, g] 77 o1 o3 o4 o5).cell 1) (by simp)
  have X2 := fun v a b d f g o1 o3 o4 o5 => Within.cell (S := []) ((kX #[v, a, b, d, f, g] 77 o1 o3 o4 o5).cell 2) (by simp)
  have X3 := fun v a b d f g o1 o3 o4 o5 => Within.cell (S := []) ((kX #[v, a, b, d, f, g] 77 o1 o3 o4 o5).cell 3) (by simp)
  have X4 := fun v a b d f g o1 o3 o4 o5 => Within.cell (S := []) ((kX #[v, a, b, d, f, g] 77 o1 o3 o4 o5).cell 4) (by simp)
  have X5 := fun v a b d f g o1 o3 o4 o5 => Within.cell (S := []) ((kX #[v, a, b, d, f, g] 77 o1 o3 o4 o5).cell 5) (by simp)
  have C4 := fun a b d e f g i j k o2 o3 o4 o5 => Within.cell (S := []) ((kC #[a, b, d, e, f, g, i, j, k] 35 o2 o3 o4 o5).cell 4) (by simp)
  have C4' := fun a b d e f g i j o2 o3 o4 o5 => Within.cell (S := []) ((kC #[a, b, d, e, f, g, i, j] 35 o2 o3 o4 o5).cell 4) (by simp)
  have E0 := fun o1 o2 o3 o4 o5 => Within.cell (S := []) (((k5 o1 o2 o3 o4 o5).cell hbe (by simp)).trans e0) (by simp)
  refine wp_region_in [] [0, 1, 2, 3, 4, 5, 6] [] [7, 8] (by kernel_rfl) (by kernel_rfl) (by intro c d u a w h; cases d <;> exact h) ?_
  show wpQuiet _ _ _ _ [_, _, _, _, _, _, _] _
  repeat (go_big_quiet_step (fail))
  refine wpQuiet_nil ?_
  show wpList _ _ _ [_, _] _ _
  clear X0 X1 X2 X3 X4 X5 C4 C4' E0
  go_wp2_with (first
    | (go_at_call 73; refine (HFi.out _ (k5 _ _ _ _ _).drew).mono ?_; rintro e w1 ⟨rfl, ho1⟩; have rC := fun i => (ho1.blk ((Only.refl [] _).drew.blk (kC _ _ _ _ _ _) (by simp)) (by simp)).cell i; have rX := fun i => (ho1.blk ((Only.refl [] _).drew.blk (kX _ _ _ _ _ _) (by simp)) (by simp)).cell i)
    | (go_at_call 71; refine (HE.out _).mono ?_; rintro e w2 ⟨rfl, hWE⟩; subst hWE)
    | (go_at_call 75; refine (HAp.out _ ((k5 _ _ _ _ _).drew.trans ho1)).mono ?_; rintro e w2 ⟨Aq, capq, avr, rfl, hst, hrd, ho2, hav, hpq⟩; have bA1 := ho2.blk (ho1.blk ((Only.refl [] _).drew.blk (kA _ _ _ _ _ _) (by simp)) (by simp)) (hMn _ (by omega)); have bY1 := ho2.blk (ho1.blk ((Only.refl [] _).drew.blk (kY _ _ _ _ _ _) (by simp)) (by simp)) (hMn _ (by omega)); have hA1 := fun i => bA1.cell i; have hA1f := fun i => bA1.free i; have hY1 := fun i => bY1.cell i; have hY1f := fun i => bY1.free i))
  have hR := HR.out
  subst hR
  clear HR
  refine bodyPost_ret (v := .tuple #[.agg #[.int .i64 q.1.err, .int .i64 q.1.version, .int .i64 q.1.position, .bool q.1.again], .agg #[.slice Aq q.2.1.places.length capq, .int .i64 q.2.1.mt.maxCount, .int .i64 q.2.1.mt.maxAge, .int .i64 q.2.1.mt.before, .int .i64 q.2.1.floor, .bool q.2.1.deleted]]) (by simp [results, Try.results39, go_sem, hA1, hY1]) rfl ⟨.slice Aq q.2.1.places.length capq, ?_⟩
  have hE : s.act c x = q := by
    have h1 := HK.out
    unfold MS.act
    rw [if_neg h1.1, if_neg h1.2]
    show (if 0 ≤ s.first x (headId c) then (s.again c x (s.first x (headId c)), x, s) else _) = _
    rw [hv, if_neg (by omega), HX.out, if_pos rfl, HQ.out]
  have hqm : q.2.2.m = s.m := by rw [HQ.out]; rfl
  rw [hE]
  refine ⟨rfl, ActLeads.of_app (S := [w.heap.size + 1 + 1, w.heap.size + 1 + 1 + 1]) h ((k5 _ _ _ _ _).drew.trans ho1) hst hrd ho2 hav hpq ?hw (fun g hg => ?hs) hqm⟩
  case hs =>
    have := ho1.size
    simp at this hg
    omega
  case hw =>
    iterate 10 (refine Only.setCell ?_ (.inl (by simp)) _)
    exact Only.refl _ _
theorem act_any {w : World} {M : List Nat} {sb mb : Nat} {av pv ev : Value} {pf : ByteArray → Value} {s : MS} {x : StreamR} {c : Cmd} (h : StAt w M sb mb av pf s) (hx : XOk s x) (hp : Rd M w 1 pv x.places.length (ints x.places))
    (he : Rd M w 4 ev c.events.length (c.events.flatMap EventR.cells)) (hl : s.all.length ≤ 1000000) (hn : 0 ≤ s.now ∧ s.now ≤ 1099511627776) (hel : c.kind ≠ 2 ∧ c.kind ≠ 3 → 1 ≤ c.events.length ∧ c.events.length ≤ 8) :
    Calls Try.prog 39 #[.pointer (some ⟨sb, 0, none⟩), c.val ev, x.val pv] w fun e w' => ∃ pv', e = .returned (.tuple #[(s.act c x).1.val, (s.act c x).2.1.val pv']) ∧ ActLeads w M sb mb av pf (s.act c x).2.1 (s.act c x).2.2 pv' w' := by
  by_cases h2 : c.kind = 2
  · exact act_meta h hx hp he hl h2
  · by_cases h3 : c.kind = 3
    · cases hq : expected c.expected x.places.length
      · exact act_delNo h hx hp he hl h3 hq
      · exact act_delYes h hx hp he hl h3 hq
    · have hk : c.kind ≠ 2 ∧ c.kind ≠ 3 := ⟨h2, h3⟩
      rcases first_cases s x (headId c) with hf | ⟨v, hv, hvl⟩
      · cases hq : expected c.expected x.places.length
        · exact act_late h hx hp he hl hk (hel hk) hf hq
        · exact act_append h hx hp he hl hk (hel hk) hn hf hq
      · exact act_again h hx hp he hl hk (hel hk) hv hvl
end Go.Proofs.Ytefkhkbkengniaa

/- Contract: act. -/
import Derived.Test.YtefkhkbkengniaaMc11
set_option linter.unusedVariables false
set_option linter.unusedSimpArgs false
namespace Go.Proofs.Ytefkhkbkengniaa
open Go.RowKit
/-- What a call on the state leaves: the state s', and what of the world may have turned. -/
def StLeads (w : World) (M : List Nat) (sb mb : Nat) (av : Value) (s' : MS) (w' : World) : Prop :=
  ∃ M' av' pf', StAt w' M' sb mb av' pf' s' ∧ Only (hM sb mb av) w w' ∧ (∀ g ∈ M, g ∈ M') ∧ (∀ g ∈ M', g ∈ M ∨ w.heap.size ≤ g) ∧ ∀ g, av'.ownBlock = some g → av.ownBlock = some g ∨ w.heap.size ≤ g
/-- What act leaves besides: the stream's places. -/
def ActLeads (w : World) (M : List Nat) (sb mb : Nat) (av : Value) (pf : ByteArray → Value) (y : StreamR) (s' : MS) (pv' : Value) (w' : World) : Prop :=
  ∃ M' av', StAt w' M' sb mb av' pf s' ∧ Rd M' w' 1 pv' y.places.length (ints y.places) ∧ Only (hM sb mb av) w w' ∧ (∀ g ∈ M, g ∈ M') ∧ (∀ g ∈ M', g ∈ M ∨ w.heap.size ≤ g) ∧ ∀ g, av'.ownBlock = some g → av.ownBlock = some g ∨ w.heap.size ≤ g
theorem ActLeads.same {w w' : World} {M : List Nat} {sb mb : Nat} {av pv : Value} {pf : ByteArray → Value} {s : MS} {y : StreamR} (h : StAt w M sb mb av pf s) (hp : Rd M w 1 pv y.places.length (ints y.places)) (k : Only [] w w') : ActLeads w M sb mb av pf y s pv w' :=
  ⟨M, av, h.only0 k, hp.only0 k, k.of_nil, fun _ q => q, fun _ q => .inl q, fun _ q => .inl q⟩
theorem Only.two {S : List Nat} {a b : World} (h : Only S a b) (e : b.heap.size = a.heap.size) {o o' : Obj} (ho : o' = o ∨ a.heap.size ∈ S) : Only S (a.alloc o) (b.alloc o') := by
  refine ⟨h.os, h.tape, h.output, by simp [e], fun k hk hn => ?_⟩
  simp at hk
  by_cases hlt : k < a.heap.size
  · rw [Below.heap_alloc _ _ _ hlt, Below.heap_alloc _ _ _ (by omega)]
    exact h.block k hlt hn
  · have hka : k = a.heap.size := by omega
    subst hka
    rcases ho with rfl | q
    · have h1 := heap_alloc_new a o'
      have h2 := heap_alloc_new b o'
      rw [e] at h2
      rw [h1, h2]
    · exact absurd q hn
theorem Only.drewL {S : List Nat} {a b : World} (h : Only S a b) : Only S a.drew b := ⟨h.os, h.tape, h.output, h.size, h.block⟩
/-- Of five fresh blocks the third may turn. -/
theorem turned (w : World) (o1 o2 o3 o4 o5 o3' : Obj) : Only [w.heap.size + 1 + 1] (((((w.alloc o1).alloc o2).alloc o3).alloc o4).alloc o5).drew (((((w.alloc o1).alloc o2).alloc o3').alloc o4).alloc o5) :=
  Only.drewL ((((Only.refl _ ((w.alloc o1).alloc o2)).two rfl (o := o3) (o' := o3') (.inr (by simp))).two (by simp) (o := o4) (o' := o4) (.inl rfl)).two (by simp) (.inl rfl))
set_option maxRecDepth 100000 in
set_option maxHeartbeats 4000000 in
theorem act_meta {w : World} {M : List Nat} {sb mb : Nat} {av pv ev : Value} {pf : ByteArray → Value} {s : MS} {x : StreamR} {c : Cmd} (h : StAt w M sb mb av pf s) (hx : XOk s x) (hp : Rd M w 1 pv x.places.length (ints x.places))
    (he : Rd M w 4 ev c.events.length (c.events.flatMap EventR.cells)) (hl : s.all.length ≤ 1000000) (hk : c.kind = 2) :
    Calls Try.prog 39 #[.pointer (some ⟨sb, 0, none⟩), c.val ev, x.val pv] w fun e w' => ∃ pv', e = .returned (.tuple #[(s.act c x).1.val, (s.act c x).2.1.val pv']) ∧ ActLeads w M sb mb av pf (s.act c x).2.1 (s.act c x).2.2 pv' w' := by
  obtain ⟨A, cap, hpv, hn1, hn2, hps⟩ := hp.1.openI
  obtain ⟨A1, cap1, hev, hn3, hn4, hes⟩ := he.1.openE EventR.cells (fun _ => rfl)
  obtain ⟨A2, cap2, hav, hnc2, hcm2, hel2⟩ := h.cell
  unfold maxLen at hn2 hn4 hcm2
  have hfew := hx.few
  have hsb := h.blk.lt
  have h0 : ∀ o1 o2 o3 o4, Only [] w ((((w.alloc o1).alloc o2).alloc o3).alloc o4) := fun o1 o2 o3 o4 => ((((Only.refl [] w).alloc _).alloc _).alloc _).alloc _
  have kC : ∀ cs t o2 o3 o4, Blk ((((w.alloc (.cells cs t)).alloc o2).alloc o3).alloc o4) w.heap.size t cs := fun cs t o2 o3 o4 => ((((Only.refl [] _).alloc o2).alloc o3).alloc o4).blk (Blk.new w t cs) (by simp)
  have kX : ∀ cs t o1 o3 o4, Blk ((((w.alloc o1).alloc (.cells cs t)).alloc o3).alloc o4) (w.heap.size + 1) t cs := fun cs t o1 o3 o4 => by
    have := (((Only.refl [] _).alloc o3).alloc o4).blk (Blk.new (w.alloc o1) t cs) (by simp)
    simpa using this
  have kA : ∀ cs t o1 o2 o4, Blk ((((w.alloc o1).alloc o2).alloc (.cells cs t)).alloc o4) (w.heap.size + 1 + 1) t cs := fun cs t o1 o2 o4 => by
    have := ((Only.refl [] _).alloc o4).blk (Blk.new ((w.alloc o1).alloc o2) t cs) (by simp)
    simpa using this
  have kY : ∀ cs t o1 o2 o3, Blk ((((w.alloc o1).alloc o2).alloc o3).alloc (.cells cs t)) (w.heap.size + 1 + 1 + 1) t cs := fun cs t o1 o2 o3 => by
    have := Blk.new (((w.alloc o1).alloc o2).alloc o3) t cs
    simpa using this
  have c0 : w.cell? ⟨sb, 0, none⟩ = some (.slice A2 s.all.length cap2) := by rw [← hav]; exact h.blk.cell 0
  have F0 := fun o1 o2 o3 o4 => Within.cell (S := []) (((h0 o1 o2 o3 o4).cell hsb (by simp)).trans c0) (by simp)
  have X0 := fun v a b d f g t o1 o3 o4 => Within.cell (S := []) ((kX #[v, a, b, d, f, g] t o1 o3 o4).cell 0) (by simp)
  subst hpv hev
  obtain ⟨R, hR⟩ : ∃ R, R = s.act c x := ⟨_, rfl⟩
  rw [← hR]
  have HR := Lib.hid hR
  clear hR c0
  rw [show c.val (.slice A1 c.events.length cap1) = .agg #[.int .i64 c.kind, .int .i64 c.time, .string c.stream, .int .i64 c.expected, .slice A1 c.events.length cap1, .int .i64 c.mt.maxCount, .int .i64 c.mt.maxAge, .int .i64 c.mt.before] from rfl,
    show x.val (.slice A x.places.length cap) = .agg #[.slice A x.places.length cap, .int .i64 x.mt.maxCount, .int .i64 x.mt.maxAge, .int .i64 x.mt.before, .int .i64 x.floor, .bool x.deleted] from rfl]
  have hk1 : ((c.kind : Int) == 2) = true := by simpa using hk
  have HK := Lib.hid hk
  clear hk
  go_enter Try.func39, Try.ntmps39
  go_wp2_with fail
  refine wp_region_in [] [0, 1, 2, 3, 4, 5, 6, 7, 8] [9] [10] (by kernel_rfl) (by kernel_rfl) (by intro c d u a w h; cases d <;> exact h) ?_
  show wpQuiet _ _ _ _ [_, _, _, _, _, _, _, _, _] _
  repeat (go_big_quiet_step (fail))
  refine wpQuiet_nil ?_
  show wpList _ _ _ [_] _ _
  go_wp2_with fail
  refine check_of (S := []) (((Only.refl [] _).alloc _).drew) ?_
  show wpList _ _ _ [_] _ _
  clear F0 X0
  go_wp2_with fail
  have k5 : ∀ o1 o2 o3 o4 o5, Only [] w (((((w.alloc o1).alloc o2).alloc o3).alloc o4).alloc o5).drew := fun o1 o2 o3 o4 o5 => ((h0 o1 o2 o3 o4).alloc o5).drew
  have kH : ∀ cs t o1 o2 o3 o4, Blk (((((w.alloc o1).alloc o2).alloc o3).alloc o4).alloc (.cells cs t)).drew (w.heap.size + 1 + 1 + 1 + 1) t cs := fun cs t o1 o2 o3 o4 => by
    have := (Only.refl [] _).drew.blk (Blk.new ((((w.alloc o1).alloc o2).alloc o3).alloc o4) t cs) (by simp <;> omega)
    simpa using this
  have kX : ∀ cs t o1 o3 o4 o5, Blk (((((w.alloc o1).alloc (.cells cs t)).alloc o3).alloc o4).alloc o5).drew (w.heap.size + 1) t cs := fun cs t o1 o3 o4 o5 => ((Only.refl [] _).alloc o5).drew.blk (kX cs t o1 o3 o4) (by simp <;> omega)
  have kA : ∀ cs t o1 o2 o4 o5, Blk (((((w.alloc o1).alloc o2).alloc (.cells cs t)).alloc o4).alloc o5).drew (w.heap.size + 1 + 1) t cs := fun cs t o1 o2 o4 o5 => ((Only.refl [] _).alloc o5).drew.blk (kA cs t o1 o2 o4) (by simp <;> omega)
  have kY : ∀ cs t o1 o2 o3 o5, Blk (((((w.alloc o1).alloc o2).alloc o3).alloc (.cells cs t)).alloc o5).drew (w.heap.size + 1 + 1 + 1) t cs := fun cs t o1 o2 o3 o5 => ((Only.refl [] _).alloc o5).drew.blk (kY cs t o1 o2 o3) (by simp <;> omega)
  have kS : ∀ o1 o2 o3 o4 o5, StAt (((((w.alloc o1).alloc o2).alloc o3).alloc o4).alloc o5).drew M sb mb av pf s := fun o1 o2 o3 o4 o5 => h.only0 (k5 o1 o2 o3 o4 o5)
  have H0 := fun v a b d o1 o2 o3 o4 => Within.cell (S := [w.heap.size + 1 + 1]) ((kH #[v, a, b, d] 29 o1 o2 o3 o4).cell 0) (by simp <;> omega)
  have H1 := fun v a b d o1 o2 o3 o4 => Within.cell (S := [w.heap.size + 1 + 1]) ((kH #[v, a, b, d] 29 o1 o2 o3 o4).cell 1) (by simp <;> omega)
  have H2 := fun v a b d o1 o2 o3 o4 => Within.cell (S := [w.heap.size + 1 + 1]) ((kH #[v, a, b, d] 29 o1 o2 o3 o4).cell 2) (by simp <;> omega)
  have H3 := fun v a b d o1 o2 o3 o4 => Within.cell (S := [w.heap.size + 1 + 1]) ((kH #[v, a, b, d] 29 o1 o2 o3 o4).cell 3) (by simp <;> omega)
  have X0 := fun v a b d f g o1 o3 o4 o5 => Within.cell (S := [w.heap.size + 1 + 1]) ((kX #[v, a, b, d, f, g] 77 o1 o3 o4 o5).cell 0) (by simp <;> omega)
  have X1 := fun v a b d f g o1 o3 o4 o5 => Within.cell (S := [w.heap.size + 1 + 1]) ((kX #[v, a, b, d, f, g] 77 o1 o3 o4 o5).cell 1) (by simp <;> omega)
  have X2 := fun v a b d f g o1 o3 o4 o5 => Within.cell (S := [w.heap.size + 1 + 1]) ((kX #[v, a, b, d, f, g] 77 o1 o3 o4 o5).cell 2) (by simp <;> omega)
  have X3 := fun v a b d f g o1 o3 o4 o5 => Within.cell (S := [w.heap.size + 1 + 1]) ((kX #[v, a, b, d, f, g] 77 o1 o3 o4 o5).cell 3) (by simp <;> omega)
  have X4 := fun v a b d f g o1 o3 o4 o5 => Within.cell (S := [w.heap.size + 1 + 1]) ((kX #[v, a, b, d, f, g] 77 o1 o3 o4 o5).cell 4) (by simp <;> omega)
  have X5 := fun v a b d f g o1 o3 o4 o5 => Within.cell (S := [w.heap.size + 1 + 1]) ((kX #[v, a, b, d, f, g] 77 o1 o3 o4 o5).cell 5) (by simp <;> omega)
  refine wp_region_in [w.heap.size + 1 + 1] [0, 1] [2] [3] (by kernel_rfl) (by kernel_rfl) (by intro c d u a w h; cases d <;> exact h) ?_
  show wpQuiet _ _ _ _ [_, _] _
  repeat (go_big_quiet_step (fail))
  refine wpQuiet_nil ?_
  show wpList _ _ _ [_] _ _
  go_wp2_with fail
  refine check_of (S := [w.heap.size + 1 + 1]) (turned w _ _ _ _ _ _).drew.drew ?_
  show wpList _ _ _ [_] _ _
  go_wp2
  have hR := HR.out
  subst hR
  clear HR H0 H1 H2 H3 X0 X1 X2 X3 X4 X5
  have hbA := fun cs o1 o2 o4 o5 i => ((Only.refl [] _).drew.blk (kA cs 29 o1 o2 o4 o5) (by simp)).cell i
  have hbY := fun cs o1 o2 o3 o5 i => ((Only.refl [] _).drew.blk (kY cs 77 o1 o2 o3 o5) (by simp)).cell i
  refine bodyPost_ret (v := .tuple #[.agg #[.int .i64 0, .int .i64 x.places.length, .int .i64 s.all.length, .bool false], .agg #[.slice A x.places.length cap, .int .i64 c.mt.maxCount, .int .i64 c.mt.maxAge, .int .i64 c.mt.before, .int .i64 x.floor, .bool x.deleted]]) (by simp [results, Try.results39, go_sem, hbA, hbY]) rfl ⟨.slice A x.places.length cap, ?_⟩
  have hE : s.act c x = (⟨0, x.places.length, s.all.length, false⟩, { x with mt := c.mt }, s) := by
    have := HK.out
    unfold MS.act
    rw [if_pos (by simpa using this)]
  rw [hE]
  refine ⟨rfl, ActLeads.same h hp ?hw⟩
  case hw => exact (k5 _ _ _ _ _).drew
set_option maxRecDepth 100000 in
set_option maxHeartbeats 4000000 in
theorem act_delYes {w : World} {M : List Nat} {sb mb : Nat} {av pv ev : Value} {pf : ByteArray → Value} {s : MS} {x : StreamR} {c : Cmd} (h : StAt w M sb mb av pf s) (hx : XOk s x) (hp : Rd M w 1 pv x.places.length (ints x.places))
    (he : Rd M w 4 ev c.events.length (c.events.flatMap EventR.cells)) (hl : s.all.length ≤ 1000000) (hk : c.kind = 3) (hexp : expected c.expected x.places.length = true) :
    Calls Try.prog 39 #[.pointer (some ⟨sb, 0, none⟩), c.val ev, x.val pv] w fun e w' => ∃ pv', e = .returned (.tuple #[(s.act c x).1.val, (s.act c x).2.1.val pv']) ∧ ActLeads w M sb mb av pf (s.act c x).2.1 (s.act c x).2.2 pv' w' := by
  obtain ⟨A, cap, hpv, hn1, hn2, hps⟩ := hp.1.openI
  obtain ⟨A1, cap1, hev, hn3, hn4, hes⟩ := he.1.openE EventR.cells (fun _ => rfl)
  obtain ⟨A2, cap2, hav, hnc2, hcm2, hel2⟩ := h.cell
  unfold maxLen at hn2 hn4 hcm2
  have hfew := hx.few
  have hsb := h.blk.lt
  have h0 : ∀ o1 o2 o3 o4, Only [] w ((((w.alloc o1).alloc o2).alloc o3).alloc o4) := fun o1 o2 o3 o4 => ((((Only.refl [] w).alloc _).alloc _).alloc _).alloc _
  have kC : ∀ cs t o2 o3 o4, Blk ((((w.alloc (.cells cs t)).alloc o2).alloc o3).alloc o4) w.heap.size t cs := fun cs t o2 o3 o4 => ((((Only.refl [] _).alloc o2).alloc o3).alloc o4).blk (Blk.new w t cs) (by simp)
  have kX : ∀ cs t o1 o3 o4, Blk ((((w.alloc o1).alloc (.cells cs t)).alloc o3).alloc o4) (w.heap.size + 1) t cs := fun cs t o1 o3 o4 => by
    have := (((Only.refl [] _).alloc o3).alloc o4).blk (Blk.new (w.alloc o1) t cs) (by simp)
    simpa using this
  have kA : ∀ cs t o1 o2 o4, Blk ((((w.alloc o1).alloc o2).alloc (.cells cs t)).alloc o4) (w.heap.size + 1 + 1) t cs := fun cs t o1 o2 o4 => by
    have := ((Only.refl [] _).alloc o4).blk (Blk.new ((w.alloc o1).alloc o2) t cs) (by simp)
    simpa using this
  have kY : ∀ cs t o1 o2 o3, Blk ((((w.alloc o1).alloc o2).alloc o3).alloc (.cells cs t)) (w.heap.size + 1 + 1 + 1) t cs := fun cs t o1 o2 o3 => by
    have := Blk.new (((w.alloc o1).alloc o2).alloc o3) t cs
    simpa using this
  have c0 : w.cell? ⟨sb, 0, none⟩ = some (.slice A2 s.all.length cap2) := by rw [← hav]; exact h.blk.cell 0
  have F0 := fun o1 o2 o3 o4 => Within.cell (S := []) (((h0 o1 o2 o3 o4).cell hsb (by simp)).trans c0) (by simp)
  have X0 := fun v a b d f g t o1 o3 o4 => Within.cell (S := []) ((kX #[v, a, b, d, f, g] t o1 o3 o4).cell 0) (by simp)
  subst hpv hev
  obtain ⟨R, hR⟩ : ∃ R, R = s.act c x := ⟨_, rfl⟩
  rw [← hR]
  have HR := Lib.hid hR
  clear hR c0
  rw [show c.val (.slice A1 c.events.length cap1) = .agg #[.int .i64 c.kind, .int .i64 c.time, .string c.stream, .int .i64 c.expected, .slice A1 c.events.length cap1, .int .i64 c.mt.maxCount, .int .i64 c.mt.maxAge, .int .i64 c.mt.before] from rfl,
    show x.val (.slice A x.places.length cap) = .agg #[.slice A x.places.length cap, .int .i64 x.mt.maxCount, .int .i64 x.mt.maxAge, .int .i64 x.mt.before, .int .i64 x.floor, .bool x.deleted] from rfl]
  have hk1 : ((c.kind : Int) == 2) = false := by rw [beq_eq_false_iff_ne]; omega
  have hk2 : ((c.kind : Int) == 3) = true := by rw [beq_iff_eq]; omega
  have HK := Lib.hid hk
  have HX := Lib.hid hexp
  have HE := Lib.hid (fun W => (expected_any c.expected x.places.length W ⟨by omega, by omega⟩))
  rw [hexp] at HE
  clear hk hexp
  go_enter Try.func39, Try.ntmps39
  go_wp2_with fail
  refine wp_region_in [] [0, 1, 2, 3, 4, 5, 6, 7, 8] [9] [10] (by kernel_rfl) (by kernel_rfl) (by intro c d u a w h; cases d <;> exact h) ?_
  show wpQuiet _ _ _ _ [_, _, _, _, _, _, _, _, _] _
  repeat (go_big_quiet_step (fail))
  refine wpQuiet_nil ?_
  show wpList _ _ _ [_] _ _
  go_wp2_with fail
  refine check_of (S := []) (((Only.refl [] _).alloc _).drew) ?_
  show wpList _ _ _ [_] _ _
  clear F0 X0
  go_wp2_with fail
  have k5 : ∀ o1 o2 o3 o4 o5, Only [] w (((((w.alloc o1).alloc o2).alloc o3).alloc o4).alloc o5).drew := fun o1 o2 o3 o4 o5 => ((h0 o1 o2 o3 o4).alloc o5).drew
  have kH : ∀ cs t o1 o2 o3 o4, Blk (((((w.alloc o1).alloc o2).alloc o3).alloc o4).alloc (.cells cs t)).drew (w.heap.size + 1 + 1 + 1 + 1) t cs := fun cs t o1 o2 o3 o4 => by
    have := (Only.refl [] _).drew.blk (Blk.new ((((w.alloc o1).alloc o2).alloc o3).alloc o4) t cs) (by simp <;> omega)
    simpa using this
  have kX : ∀ cs t o1 o3 o4 o5, Blk (((((w.alloc o1).alloc (.cells cs t)).alloc o3).alloc o4).alloc o5).drew (w.heap.size + 1) t cs := fun cs t o1 o3 o4 o5 => ((Only.refl [] _).alloc o5).drew.blk (kX cs t o1 o3 o4) (by simp <;> omega)
  have kA : ∀ cs t o1 o2 o4 o5, Blk (((((w.alloc o1).alloc o2).alloc (.cells cs t)).alloc o4).alloc o5).drew (w.heap.size + 1 + 1) t cs := fun cs t o1 o2 o4 o5 => ((Only.refl [] _).alloc o5).drew.blk (kA cs t o1 o2 o4) (by simp <;> omega)
  have kY : ∀ cs t o1 o2 o3 o5, Blk (((((w.alloc o1).alloc o2).alloc o3).alloc (.cells cs t)).alloc o5).drew (w.heap.size + 1 + 1 + 1) t cs := fun cs t o1 o2 o3 o5 => ((Only.refl [] _).alloc o5).drew.blk (kY cs t o1 o2 o3) (by simp <;> omega)
  have kS : ∀ o1 o2 o3 o4 o5, StAt (((((w.alloc o1).alloc o2).alloc o3).alloc o4).alloc o5).drew M sb mb av pf s := fun o1 o2 o3 o4 o5 => h.only0 (k5 o1 o2 o3 o4 o5)
  go_wp2_with (go_at_call 71; refine (HE.out _).mono ?_; rintro e w1 ⟨rfl, hWE⟩; subst hWE)
  have H0 := fun v a b d o1 o2 o3 o4 => Within.cell (S := [w.heap.size + 1 + 1]) ((kH #[v, a, b, d] 29 o1 o2 o3 o4).cell 0) (by simp <;> omega)
  have H1 := fun v a b d o1 o2 o3 o4 => Within.cell (S := [w.heap.size + 1 + 1]) ((kH #[v, a, b, d] 29 o1 o2 o3 o4).cell 1) (by simp <;> omega)
  have H2 := fun v a b d o1 o2 o3 o4 => Within.cell (S := [w.heap.size + 1 + 1]) ((kH #[v, a, b, d] 29 o1 o2 o3 o4).cell 2) (by simp <;> omega)
  have H3 := fun v a b d o1 o2 o3 o4 => Within.cell (S := [w.heap.size + 1 + 1]) ((kH #[v, a, b, d] 29 o1 o2 o3 o4).cell 3) (by simp <;> omega)
  have X0 := fun v a b d f g o1 o3 o4 o5 => Within.cell (S := [w.heap.size + 1 + 1]) ((kX #[v, a, b, d, f, g] 77 o1 o3 o4 o5).cell 0) (by simp <;> omega)
  have X1 := fun v a b d f g o1 o3 o4 o5 => Within.cell (S := [w.heap.size + 1 + 1]) ((kX #[v, a, b, d, f, g] 77 o1 o3 o4 o5).cell 1) (by simp <;> omega)
  have X2 := fun v a b d f g o1 o3 o4 o5 => Within.cell (S := [w.heap.size + 1 + 1]) ((kX #[v, a, b, d, f, g] 77 o1 o3 o4 o5).cell 2) (by simp <;> omega)
  have X3 := fun v a b d f g o1 o3 o4 o5 => Within.cell (S := [w.heap.size + 1 + 1]) ((kX #[v, a, b, d, f, g] 77 o1 o3 o4 o5).cell 3) (by simp <;> omega)
  have X4 := fun v a b d f g o1 o3 o4 o5 => Within.cell (S := [w.heap.size + 1 + 1]) ((kX #[v, a, b, d, f, g] 77 o1 o3 o4 o5).cell 4) (by simp <;> omega)
  have X5 := fun v a b d f g o1 o3 o4 o5 => Within.cell (S := [w.heap.size + 1 + 1]) ((kX #[v, a, b, d, f, g] 77 o1 o3 o4 o5).cell 5) (by simp <;> omega)
  refine wp_region_in [w.heap.size + 1 + 1] [0, 1] [2] [3] (by kernel_rfl) (by kernel_rfl) (by intro c d u a w h; cases d <;> exact h) ?_
  show wpQuiet _ _ _ _ [_, _] _
  repeat (go_big_quiet_step (fail))
  refine wpQuiet_nil ?_
  show wpList _ _ _ [_] _ _
  go_wp2_with fail
  refine check_of (S := [w.heap.size + 1 + 1]) (turned w _ _ _ _ _ _).drew.drew ?_
  show wpList _ _ _ [_] _ _
  go_wp2
  have hR := HR.out
  subst hR
  clear HR H0 H1 H2 H3 X0 X1 X2 X3 X4 X5
  have hbA := fun cs o1 o2 o4 o5 i => ((Only.refl [] _).drew.blk (kA cs 29 o1 o2 o4 o5) (by simp)).cell i
  have hbY := fun cs o1 o2 o3 o5 i => ((Only.refl [] _).drew.blk (kY cs 77 o1 o2 o3 o5) (by simp)).cell i
  refine bodyPost_ret (v := .tuple #[.agg #[.int .i64 0, .int .i64 x.places.length, .int .i64 s.all.length, .bool false], .agg #[.slice A x.places.length cap, .int .i64 x.mt.maxCount, .int .i64 x.mt.maxAge, .int .i64 x.mt.before, .int .i64 x.floor, .bool true]]) (by simp [results, Try.results39, go_sem, hbA, hbY]) rfl ⟨.slice A x.places.length cap, ?_⟩
  have hE : s.act c x = (⟨0, x.places.length, s.all.length, false⟩, { x with deleted := true }, s) := by
    have := HK.out
    unfold MS.act
    rw [if_neg (by omega), if_pos (by omega), HX.out, if_pos rfl]
  rw [hE]
  refine ⟨rfl, ActLeads.same h hp ?hw⟩
  case hw => exact (k5 _ _ _ _ _).drew
set_option maxRecDepth 100000 in
set_option maxHeartbeats 4000000 in
theorem act_delNo {w : World} {M : List Nat} {sb mb : Nat} {av pv ev : Value} {pf : ByteArray → Value} {s : MS} {x : StreamR} {c : Cmd} (h : StAt w M sb mb av pf s) (hx : XOk s x) (hp : Rd M w 1 pv x.places.length (ints x.places))
    (he : Rd M w 4 ev c.events.length (c.events.flatMap EventR.cells)) (hl : s.all.length ≤ 1000000) (hk : c.kind = 3) (hexp : expected c.expected x.places.length = false) :
    Calls Try.prog 39 #[.pointer (some ⟨sb, 0, none⟩), c.val ev, x.val pv] w fun e w' => ∃ pv', e = .returned (.tuple #[(s.act c x).1.val, (s.act c x).2.1.val pv']) ∧ ActLeads w M sb mb av pf (s.act c x).2.1 (s.act c x).2.2 pv' w' := by
  obtain ⟨A, cap, hpv, hn1, hn2, hps⟩ := hp.1.openI
  obtain ⟨A1, cap1, hev, hn3, hn4, hes⟩ := he.1.openE EventR.cells (fun _ => rfl)
  obtain ⟨A2, cap2, hav, hnc2, hcm2, hel2⟩ := h.cell
  unfold maxLen at hn2 hn4 hcm2
  have hfew := hx.few
  have hsb := h.blk.lt
  have h0 : ∀ o1 o2 o3 o4, Only [] w ((((w.alloc o1).alloc o2).alloc o3).alloc o4) := fun o1 o2 o3 o4 => ((((Only.refl [] w).alloc _).alloc _).alloc _).alloc _
  have kC : ∀ cs t o2 o3 o4, Blk ((((w.alloc (.cells cs t)).alloc o2).alloc o3).alloc o4) w.heap.size t cs := fun cs t o2 o3 o4 => ((((Only.refl [] _).alloc o2).alloc o3).alloc o4).blk (Blk.new w t cs) (by simp)
  have kX : ∀ cs t o1 o3 o4, Blk ((((w.alloc o1).alloc (.cells cs t)).alloc o3).alloc o4) (w.heap.size + 1) t cs := fun cs t o1 o3 o4 => by
    have := (((Only.refl [] _).alloc o3).alloc o4).blk (Blk.new (w.alloc o1) t cs) (by simp)
    simpa using this
  have kA : ∀ cs t o1 o2 o4, Blk ((((w.alloc o1).alloc o2).alloc (.cells cs t)).alloc o4) (w.heap.size + 1 + 1) t cs := fun cs t o1 o2 o4 => by
    have := ((Only.refl [] _).alloc o4).blk (Blk.new ((w.alloc o1).alloc o2) t cs) (by simp)
    simpa using this
  have kY : ∀ cs t o1 o2 o3, Blk ((((w.alloc o1).alloc o2).alloc o3).alloc (.cells cs t)) (w.heap.size + 1 + 1 + 1) t cs := fun cs t o1 o2 o3 => by
    have := Blk.new (((w.alloc o1).alloc o2).alloc o3) t cs
    simpa using this
  have c0 : w.cell? ⟨sb, 0, none⟩ = some (.slice A2 s.all.length cap2) := by rw [← hav]; exact h.blk.cell 0
  have F0 := fun o1 o2 o3 o4 => Within.cell (S := []) (((h0 o1 o2 o3 o4).cell hsb (by simp)).trans c0) (by simp)
  have X0 := fun v a b d f g t o1 o3 o4 => Within.cell (S := []) ((kX #[v, a, b, d, f, g] t o1 o3 o4).cell 0) (by simp)
  subst hpv hev
  obtain ⟨R, hR⟩ : ∃ R, R = s.act c x := ⟨_, rfl⟩
  rw [← hR]
  have HR := Lib.hid hR
  clear hR c0
  rw [show c.val (.slice A1 c.events.length cap1) = .agg #[.int .i64 c.kind, .int .i64 c.time, .string c.stream, .int .i64 c.expected, .slice A1 c.events.length cap1, .int .i64 c.mt.maxCount, .int .i64 c.mt.maxAge, .int .i64 c.mt.before] from rfl,
    show x.val (.slice A x.places.length cap) = .agg #[.slice A x.places.length cap, .int .i64 x.mt.maxCount, .int .i64 x.mt.maxAge, .int .i64 x.mt.before, .int .i64 x.floor, .bool x.deleted] from rfl]
  have HWr := Lib.hid (fun (W : World) (hw : Only [] w W) => show Calls Try.prog 72 #[.agg #[.slice A x.places.length cap, .int .i64 x.mt.maxCount, .int .i64 x.mt.maxAge, .int .i64 x.mt.before, .int .i64 x.floor, .bool x.deleted]] W fun e w' => e = .returned (.agg #[.int .i64 22, .int .i64 ((x.places.length : Int) - 1), .int .i64 0, .bool false]) ∧ Only [] W w' from wrong_any (x := x) (hp.1.only0 hw) (by omega))
  have hk1 : ((c.kind : Int) == 2) = false := by rw [beq_eq_false_iff_ne]; omega
  have hk2 : ((c.kind : Int) == 3) = true := by rw [beq_iff_eq]; omega
  have HK := Lib.hid hk
  have HX := Lib.hid hexp
  have HE := Lib.hid (fun W => (expected_any c.expected x.places.length W ⟨by omega, by omega⟩))
  rw [hexp] at HE
  clear hk hexp
  go_enter Try.func39, Try.ntmps39
  go_wp2_with fail
  refine wp_region_in [] [0, 1, 2, 3, 4, 5, 6, 7, 8] [9] [10] (by kernel_rfl) (by kernel_rfl) (by intro c d u a w h; cases d <;> exact h) ?_
  show wpQuiet _ _ _ _ [_, _, _, _, _, _, _, _, _] _
  repeat (go_big_quiet_step (fail))
  refine wpQuiet_nil ?_
  show wpList _ _ _ [_] _ _
  go_wp2_with fail
  refine check_of (S := []) (((Only.refl [] _).alloc _).drew) ?_
  show wpList _ _ _ [_] _ _
  clear F0 X0
  go_wp2_with fail
  have k5 : ∀ o1 o2 o3 o4 o5, Only [] w (((((w.alloc o1).alloc o2).alloc o3).alloc o4).alloc o5).drew := fun o1 o2 o3 o4 o5 => ((h0 o1 o2 o3 o4).alloc o5).drew
  have kH : ∀ cs t o1 o2 o3 o4, Blk (((((w.alloc o1).alloc o2).alloc o3).alloc o4).alloc (.cells cs t)).drew (w.heap.size + 1 + 1 + 1 + 1) t cs := fun cs t o1 o2 o3 o4 => by
    have := (Only.refl [] _).drew.blk (Blk.new ((((w.alloc o1).alloc o2).alloc o3).alloc o4) t cs) (by simp <;> omega)
    simpa using this
  have kX : ∀ cs t o1 o3 o4 o5, Blk (((((w.alloc o1).alloc (.cells cs t)).alloc o3).alloc o4).alloc o5).drew (w.heap.size + 1) t cs := fun cs t o1 o3 o4 o5 => ((Only.refl [] _).alloc o5).drew.blk (kX cs t o1 o3 o4) (by simp <;> omega)
  have kA : ∀ cs t o1 o2 o4 o5, Blk (((((w.alloc o1).alloc o2).alloc (.cells cs t)).alloc o4).alloc o5).drew (w.heap.size + 1 + 1) t cs := fun cs t o1 o2 o4 o5 => ((Only.refl [] _).alloc o5).drew.blk (kA cs t o1 o2 o4) (by simp <;> omega)
  have kY : ∀ cs t o1 o2 o3 o5, Blk (((((w.alloc o1).alloc o2).alloc o3).alloc (.cells cs t)).alloc o5).drew (w.heap.size + 1 + 1 + 1) t cs := fun cs t o1 o2 o3 o5 => ((Only.refl [] _).alloc o5).drew.blk (kY cs t o1 o2 o3) (by simp <;> omega)
  have kS : ∀ o1 o2 o3 o4 o5, StAt (((((w.alloc o1).alloc o2).alloc o3).alloc o4).alloc o5).drew M sb mb av pf s := fun o1 o2 o3 o4 o5 => h.only0 (k5 o1 o2 o3 o4 o5)
  go_wp2_with (go_at_call 71; refine (HE.out _).mono ?_; rintro e w1 ⟨rfl, hWE⟩; subst hWE)
  have H0 := fun v a b d o1 o2 o3 o4 => Within.cell (S := [w.heap.size + 1 + 1]) ((kH #[v, a, b, d] 29 o1 o2 o3 o4).cell 0) (by simp <;> omega)
  have H1 := fun v a b d o1 o2 o3 o4 => Within.cell (S := [w.heap.size + 1 + 1]) ((kH #[v, a, b, d] 29 o1 o2 o3 o4).cell 1) (by simp <;> omega)
  have H2 := fun v a b d o1 o2 o3 o4 => Within.cell (S := [w.heap.size + 1 + 1]) ((kH #[v, a, b, d] 29 o1 o2 o3 o4).cell 2) (by simp <;> omega)
  have H3 := fun v a b d o1 o2 o3 o4 => Within.cell (S := [w.heap.size + 1 + 1]) ((kH #[v, a, b, d] 29 o1 o2 o3 o4).cell 3) (by simp <;> omega)
  have X0 := fun v a b d f g o1 o3 o4 o5 => Within.cell (S := [w.heap.size + 1 + 1]) ((kX #[v, a, b, d, f, g] 77 o1 o3 o4 o5).cell 0) (by simp <;> omega)
  have X1 := fun v a b d f g o1 o3 o4 o5 => Within.cell (S := [w.heap.size + 1 + 1]) ((kX #[v, a, b, d, f, g] 77 o1 o3 o4 o5).cell 1) (by simp <;> omega)
  have X2 := fun v a b d f g o1 o3 o4 o5 => Within.cell (S := [w.heap.size + 1 + 1]) ((kX #[v, a, b, d, f, g] 77 o1 o3 o4 o5).cell 2) (by simp <;> omega)
  have X3 := fun v a b d f g o1 o3 o4 o5 => Within.cell (S := [w.heap.size + 1 + 1]) ((kX #[v, a, b, d, f, g] 77 o1 o3 o4 o5).cell 3) (by simp <;> omega)
  have X4 := fun v a b d f g o1 o3 o4 o5 => Within.cell (S := [w.heap.size + 1 + 1]) ((kX #[v, a, b, d, f, g] 77 o1 o3 o4 o5).cell 4) (by simp <;> omega)
  have X5 := fun v a b d f g o1 o3 o4 o5 => Within.cell (S := [w.heap.size + 1 + 1]) ((kX #[v, a, b, d, f, g] 77 o1 o3 o4 o5).cell 5) (by simp <;> omega)
  refine wp_region_in [w.heap.size + 1 + 1] [0, 2] [1, 3] [4] (by kernel_rfl) (by kernel_rfl) (by intro c d u a w h; cases d <;> exact h) ?_
  show wpQuiet _ _ _ _ [_, _] _
  repeat (go_big_quiet_step (fail))
  refine wpQuiet_nil ?_
  show wpList _ _ _ [_] _ _
  go_wp2_with (go_at_call 72; refine (HWr.out _ (k5 _ _ _ _ _).drew).mono ?_; rintro e w1 ⟨rfl, ho1⟩)
  refine check_of (S := [w.heap.size + 1 + 1]) (((Only.refl [] _).drew.trans ho1).of_nil) ?_
  show wpList _ _ _ [_] _ _
  have hA1 := fun i => (ho1.blk ((Only.refl [] _).drew.blk (kA _ _ _ _ _ _) (by simp)) (by simp <;> omega)).cell i
  have hA1f := fun i => (ho1.blk ((Only.refl [] _).drew.blk (kA _ _ _ _ _ _) (by simp)) (by simp <;> omega)).free i
  have hY1 := fun i => (ho1.blk ((Only.refl [] _).drew.blk (kY _ _ _ _ _ _) (by simp)) (by simp <;> omega)).cell i
  have hY1f := fun i => (ho1.blk ((Only.refl [] _).drew.blk (kY _ _ _ _ _ _) (by simp)) (by simp <;> omega)).free i
  go_wp2_with fail
  refine check_of (S := [w.heap.size + 1 + 1]) (by repeat (first | exact ((Only.refl [] _).drew.trans ho1).of_nil | refine Only.drew ?_ | refine Only.setCell ?_ (.inl (by simp)) _)) ?_
  show wpList _ _ _ [_] _ _
  go_wp2
  have hR := HR.out
  subst hR
  clear HR H0 H1 H2 H3 X0 X1 X2 X3 X4 X5
  refine bodyPost_ret (v := .tuple #[.agg #[.int .i64 22, .int .i64 ((x.places.length : Int) - 1), .int .i64 0, .bool false], .agg #[.slice A x.places.length cap, .int .i64 x.mt.maxCount, .int .i64 x.mt.maxAge, .int .i64 x.mt.before, .int .i64 x.floor, .bool x.deleted]]) (by simp [results, Try.results39, go_sem, hA1, hY1]) rfl ⟨.slice A x.places.length cap, ?_⟩
  have hE : s.act c x = (wrong x, x, s) := by
    have := HK.out
    unfold MS.act
    rw [if_neg (by omega), if_pos (by omega), HX.out, if_neg (by decide)]
  rw [hE]
  refine ⟨rfl, ActLeads.same h hp ?hw⟩
  case hw =>
    iterate 10 (refine Only.setCell ?_ (.inr (by simp <;> omega)) _)
    exact (k5 _ _ _ _ _).drew.trans ho1
end Go.Proofs.Ytefkhkbkengniaa

/- Contract: Do on a stream. -/
import Derived.Test.YtefkhkbkengniaaMc14
set_option linter.unusedVariables false
set_option linter.unusedSimpArgs false
namespace Go.Proofs.Ytefkhkbkengniaa
open Go.RowKit
set_option maxRecDepth 100000 in
set_option maxHeartbeats 4000000 in
theorem do_gone {w : World} {M : List Nat} {sb mb N : Nat} {av ev : Value} {pf : ByteArray → Value} {s : MS} {c : Cmd} (h : StAt w M sb mb av pf s) (hs : s.Ok N) (hN : N ≤ 100000) (hc : CmdOk c)
    (he : Rd M w 4 ev c.events.length (c.events.flatMap EventR.cells)) (hk : c.check = 0) (hm : ¬ (c.kind = 4 ∨ c.kind = 5)) (hd : (s.find c.stream).deleted = true) :
    Calls Try.prog 13 #[.pointer (some ⟨sb, 0, none⟩), c.val ev] w fun e w' => e = .returned (s.do c).1.val ∧ StLeads w M sb mb av (s.do c).2 w' := by
  obtain ⟨A1, cap1, hev, hn3, hn4, hes⟩ := he.1.openE EventR.cells (fun _ => rfl)
  obtain ⟨A2, cap2, hav, hnc2, hcm2, hel2⟩ := h.cell
  unfold maxLen at hn4 hcm2
  have hsb := h.blk.lt
  subst hev
  have HCk := Lib.hid (fun (W : World) (hw : Only [] w W) => show Calls Try.prog 36 #[.agg #[.int .i64 c.kind, .int .i64 c.time, .string c.stream, .int .i64 c.expected, .slice A1 c.events.length cap1, .int .i64 c.mt.maxCount, .int .i64 c.mt.maxAge, .int .i64 c.mt.before]] W fun e w' => e = .returned (.int .i64 c.check) ∧ Only [] W w' from check_any c _ W (he.1.only0 hw) hc)
  have h2 : ∀ o1 o2, Only [] w ((w.alloc o1).alloc o2) := fun o1 o2 => ((Only.refl [] w).alloc o1).alloc o2
  have kC : ∀ cs t o2, Blk ((w.alloc (.cells cs t)).alloc o2) w.heap.size t cs := fun cs t o2 => ((Only.refl [] _).alloc o2).blk (Blk.new w t cs) (by simp)
  have kA : ∀ cs t o1, Blk ((w.alloc o1).alloc (.cells cs t)) (w.heap.size + 1) t cs := fun cs t o1 => by
    have := Blk.new (w.alloc o1) t cs
    simpa using this
  obtain ⟨R, hR⟩ : ∃ R, R = s.do c := ⟨_, rfl⟩
  rw [← hR]
  have HR := Lib.hid hR
  clear hR
  rw [show c.val (.slice A1 c.events.length cap1) = .agg #[.int .i64 c.kind, .int .i64 c.time, .string c.stream, .int .i64 c.expected, .slice A1 c.events.length cap1, .int .i64 c.mt.maxCount, .int .i64 c.mt.maxAge, .int .i64 c.mt.before] from rfl]
  have HK := Lib.hid hk
  rw [hk] at HCk
  have hk4 : ((c.kind : Int) == 4) = false := by rw [beq_eq_false_iff_ne]; omega
  have hk5 : ((c.kind : Int) == 5) = false := by rw [beq_eq_false_iff_ne]; omega
  have HM := Lib.hid hm
  clear hk hm
  obtain ⟨A3, cap3, hpv3, hn5, hn6, hps⟩ := (h.rd c.stream).1.openI
  have hfd : ∀ (W : World) (t : Int), StAt W M sb mb av pf { s with now := t, done := s.done + 1 } → Calls Try.prog 37 #[.pointer (some ⟨sb, 0, none⟩), .string c.stream] W fun e w' => e = .returned (.agg #[.slice A3 (s.find c.stream).places.length cap3, .int .i64 (s.find c.stream).mt.maxCount, .int .i64 (s.find c.stream).mt.maxAge, .int .i64 (s.find c.stream).mt.before, .int .i64 (s.find c.stream).floor, .bool (s.find c.stream).deleted]) ∧ Only [] W w' := fun W t hst => by
    have q := find_any hst c.stream
    rw [show pvOf { s with now := t, done := s.done + 1 } pf c.stream = pvOf s pf c.stream from rfl, hpv3] at q
    exact q
  have HFd := Lib.hid hfd
  clear hfd
  obtain ⟨x, hx⟩ : ∃ x, x = s.find c.stream := ⟨_, rfl⟩
  rw [← hx] at HFd
  have HXf := Lib.hid hx
  have hdn := IntWalk.i64_in (s.done + 1) ⟨by have := hs.done; omega, by have := hs.done; omega⟩
  have hne0 : w.heap.size ≠ sb := by omega
  rw [← hx] at hd
  rw [hd] at HFd
  have HD := Lib.hid hd
  clear hd hx
  go_enter Try.func13, Try.ntmps13
  go_wp2_with (go_at_call 36; refine (HCk.out _ (h2 _ _)).mono ?_; rintro e w1 ⟨rfl, ho1⟩)
  obtain ⟨t, ht⟩ : ∃ t, t = max s.now c.time := ⟨_, rfl⟩
  have hmx : (if s.now < c.time then c.time else s.now) = t := by rw [ht]; split <;> omega
  have hmy : (if c.time > s.now then c.time else s.now) = t := hmx
  have HT := Lib.hid ht
  clear ht
  have bC1 := ho1.blk (kC _ _ _) (by simp)
  have bA1 := ho1.blk (kA _ _ _) (by simp)
  have hO1 : Only [] w w1 := (h2 _ _).trans ho1
  have bS1 := hO1.blk h.blk (by simp)
  have C1 := WithinE.cell (E := fun W => W.cell? ⟨sb, 2, none⟩ = some (.int .i64 s.done)) (S := [sb]) (bC1.cell 1) (by simp; omega)
  have D2 := fun p : WithinE [sb] (fun W => W.cell? ⟨sb, 2, none⟩ = some (.int .i64 s.done)) w1 => p.e
  refine wp_region_inE [sb] [0, 1, 2, 3, 4, 6, 7, 9, 10, 11, 12, 13] [5, 8, 14, 15, 16] [17, 18, 19] (fun W => W.cell? ⟨sb, 2, none⟩ = some (.int .i64 s.done)) (bS1.cell 2) (by kernel_rfl) (by kernel_rfl) (by intro c d u a w h; cases d <;> exact h) ?_
  intro hne
  show wpQuiet _ _ _ _ [_, _, _, _, _, _, _, _, _, _, _, _] _
  repeat (go_big_quiet_step (fail))
  refine wpQuiet_nil ?_
  show wpList _ _ _ [_] _ _
  have hSf := fun i => bS1.free i
  have hSc := fun i => bS1.cell i
  have N3 : w1.drew.cell? ⟨sb, 3, none⟩ = some (.int .i64 s.now) := bS1.cell 3
  go_wp2_with fail
  refine check_ofE (S := [sb]) (Only.refl _ _).drew (bS1.cell 2) ?_
  show wpList _ _ _ [_] _ _
  go_wp2_with fail
  refine check_ofE (S := [sb]) (Only.refl _ _).drew (bS1.cell 2) ?_
  show wpList _ _ _ [_] _ _
  go_wp2_with fail
  refine check_ofE (S := [sb]) (Only.refl _ _).drew (bS1.cell 2) ?_
  show wpList _ _ _ [_] _ _
  go_wp2_with fail
  refine check_ofE (S := [sb]) (Only.refl _ _).drew (bS1.cell 2) ?_
  show wpList _ _ _ [_] _ _
  go_wp2_with fail
  refine check_ofE (S := [sb]) (((Only.refl _ _).setCell (.inl (by simp)) _).drew) ((bS1.set 3 _).cell 2) ?_
  show wpList _ _ _ [_, _, _] _ _
  have hO2 := fun u v => ((Only.refl [sb] w1).setCell (p := ⟨sb, 3, none⟩) (.inl (by simp)) u).setCell (p := ⟨sb, 2, none⟩) (.inl (by simp)) v
  have hC2 := fun u v i => ((hO2 u v).blk bC1 (by simp; omega)).cell i
  have hC2' := fun u v i => ((hO2 u v).drew.blk bC1 (by simp; omega)).cell i
  have hb0 := (bS1.set 3 (.int .i64 t)).set 2 (.int .i64 (s.done + 1))
  have hT2 := StAt.ticked h (hO1.of_nil.trans (hO2 (.int .i64 t) (.int .i64 (s.done + 1)))) hb0
  have hT3 := hT2.only0 (Only.refl [] _).drew
  have kA2 := fun u v => (hO2 u v).drew.blk bA1 (by simp; omega)
  go_wp2_with (go_at_call 37; refine (HFd.out _ _ (by first | exact hT3 | exact hT2)).mono ?_; rintro e w2 ⟨rfl, ho2⟩; have hA3 := fun o : Obj => fun i => (((Only.refl [] w2).alloc o).blk (ho2.blk (kA2 _ _) (by simp)) (by simp)).cell i; have hA3f := fun o : Obj => fun i => (((Only.refl [] w2).alloc o).blk (ho2.blk (kA2 _ _) (by simp)) (by simp)).free i)
  have hR := HR.out
  subst hR
  refine bodyPost_ret (v := .agg #[.int .i64 23, .int .i64 0, .int .i64 0, .bool false]) (by simp [results, Try.results13, go_sem, hA3]) rfl ?_
  have hE : s.do c = (⟨23, 0, 0, false⟩, { s with now := t, done := s.done + 1 }) := by
    unfold MS.do
    rw [if_neg (by rw [HK.out]; decide), HT.out]
    dsimp only
    rw [if_neg HM.out]
    show (if (s.find c.stream).deleted = true then _ else _) = _
    rw [← HXf.out, if_pos HD.out]
    rfl
  rw [hE]
  have hb2 := ho2.blk ((Only.refl [] _).drew.blk hb0 (by simp)) (by simp)
  refine ⟨rfl, M, av, pf, StAt.ticked h ?hw (Only.blk (S := [w.heap.size + 1]) ?ho hb2 (by simp; omega)), Only.mono ?hw (by simp [hM]), fun _ q => q, fun _ q => .inl q, fun _ q => .inl q⟩
  case hw =>
    iterate 4 (refine Only.setCell ?_ (.inr (by simp <;> omega)) _)
    refine Only.alloc ?_ _
    exact (hO1.of_nil.trans (hO2 _ _)).drew.trans ho2.of_nil
  case ho =>
    iterate 4 (refine Only.setCell ?_ (.inl (by simp)) _)
    exact (Only.refl _ _).alloc _
end Go.Proofs.Ytefkhkbkengniaa

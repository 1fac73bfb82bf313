/- Contract: Do. -/
import Derived.Test.YtefkhkbkengniaaMc3
import Derived.Test.YtefkhkbkengniaaMc13
set_option linter.unusedVariables false
set_option linter.unusedSimpArgs false
namespace Go.Proofs.Ytefkhkbkengniaa
open Go.RowKit
/-- Within, with one thing more that stays. -/
structure WithinE (S : List Nat) (E : World → Prop) (w : World) where
  W : World
  h : Only S w W
  e : E W
section
variable {P : Program} {Q : Exit → Act → World → Prop} {l : List Oper} {S : List Nat} {E : World → Prop}
theorem wp_region_inE {id : Nat} {a : Act} {w : World} (S H T1 T2 : List Nat) (E : World → Prop) (hE : E w.drew) (hm : P.follows .mixedOrders = true) (hB : planB .any l.toArray H T1 T2 = true) (hQ : ∀ c d u a w, Q (.panic c) (Act.put a d u) w → Q (.panic c) a w)
    (h : Nonempty (WithinE S E w) → wpQuiet P l.toArray (fun W => ∃ p : WithinE S E w, W = p.W) (fun a' => wpT1 P l.toArray (fun W => ∃ p : WithinE S E w, W = p.W) Q (opsAt l T1) (fun a w => wpList P l.toArray Q (opsAt l T2) a w) a' w.drew) (opsAt l H) a) : (Code.region id l.toArray true).wp P Q a w :=
  wp_region_plan H T1 T2 hm hB hQ ⟨⟨_, (Only.refl S w).drew, hE⟩, rfl⟩ (h ⟨⟨_, (Only.refl S w).drew, hE⟩⟩)
theorem WithinE.cell {w : World} {x : Addr} {v : Value} (hc : w.cell? x = some v) (hn : x.block ∉ S) (p : WithinE S E w) : p.W.cell? x = some v := (p.h.cell (block_lt_of_cell hc) hn).trans hc
theorem check_ofE {w w' : World} {K : Act → World → Prop} {a : Act} (hO : Only S w w') (hE : E w') (h : K a w') : CheckQ (fun W => ∃ p : WithinE S E w, W = p.W) Q K .normal a w' := ⟨⟨⟨w', hO, hE⟩, rfl⟩, h⟩
end
theorem StLeads.same {w w' : World} {M : List Nat} {sb mb : Nat} {av : Value} {pf : ByteArray → Value} {s : MS} (h : StAt w M sb mb av pf s) (k : Only [] w w') : StLeads w M sb mb av s w' :=
  ⟨M, av, pf, h.only0 k, k.of_nil, fun _ q => q, fun _ q => .inl q, fun _ q => .inl q⟩
theorem StAt.ticked {w W : World} {M : List Nat} {sb mb : Nat} {av : Value} {pf : ByteArray → Value} {s : MS} {t n : Int} (h : StAt w M sb mb av pf s) (hO : Only [sb] w W) (hb : Blk W sb 75 #[av, .map (some mb), .int .i64 n, .int .i64 t]) :
    StAt W M sb mb av pf { s with now := t, done := n } :=
  ⟨hb, own_only h.own hO (fun g hg => by simpa using (h.ownne g hg).1), h.map.only hO (by simpa using h.ne), fun k x hx => (h.pl k x hx).only hO (by simpa using h.inM.1), h.inM, fun g hg => Nat.lt_of_lt_of_le (h.mlt g hg) hO.size⟩
theorem do_nil (c : Cmd) (ev : Value) (w : World) : Calls Try.prog 13 #[.pointer none, c.val ev] w fun e w' => e = .returned (Ans.val ⟨1, 0, 0, false⟩) ∧ Only [] w w' := by
  unfold Cmd.val Ans.val
  go_enter Try.func13, Try.ntmps13
  go_wp2
  have kA : ∀ cs t o1 i, ((w.alloc o1).alloc (.cells cs t)).cell? ⟨w.heap.size + 1, i, none⟩ = cs[i]? := fun cs t o1 i => by
    have := (Blk.new (w.alloc o1) t cs).cell i
    rw [World.size_alloc] at this
    exact this
  refine bodyPost_ret (v := .agg #[.int .i64 1, .int .i64 0, .int .i64 0, .bool false]) (by simp [results, Try.results13, go_sem, kA]) rfl ⟨rfl, ?hw⟩
  case hw => exact ((Only.refl [] _).alloc _).alloc _
set_option maxHeartbeats 4000000 in
theorem do_bad {w : World} {M : List Nat} {sb mb N : Nat} {av ev : Value} {pf : ByteArray → Value} {s : MS} {c : Cmd} (h : StAt w M sb mb av pf s) (hs : s.Ok N) (hN : N ≤ 100000) (hc : CmdOk c)
    (he : Rd M w 4 ev c.events.length (c.events.flatMap EventR.cells)) (hk : c.check ≠ 0) :
    Calls Try.prog 13 #[.pointer (some ⟨sb, 0, none⟩), c.val ev] w fun e w' => e = .returned (s.do c).1.val ∧ StLeads w M sb mb av (s.do c).2 w' := by
  obtain ⟨A1, cap1, hev, hn3, hn4, hes⟩ := he.1.openE EventR.cells (fun _ => rfl)
  obtain ⟨A2, cap2, hav, hnc2, hcm2, hel2⟩ := h.cell
  unfold maxLen at hn4 hcm2
  have hsb := h.blk.lt
  subst hev
  have HCk := Lib.hid (fun (W : World) (hw : Only [] w W) => show Calls Try.prog 36 #[.agg #[.int .i64 c.kind, .int .i64 c.time, .string c.stream, .int .i64 c.expected, .slice A1 c.events.length cap1, .int .i64 c.mt.maxCount, .int .i64 c.mt.maxAge, .int .i64 c.mt.before]] W fun e w' => e = .returned (.int .i64 c.check) ∧ Only [] W w' from check_any c _ W (he.1.only0 hw) hc)
  have h2 : ∀ o1 o2, Only [] w ((w.alloc o1).alloc o2) := fun o1 o2 => ((Only.refl [] w).alloc o1).alloc o2
  have kC : ∀ cs t o2, Blk ((w.alloc (.cells cs t)).alloc o2) w.heap.size t cs := fun cs t o2 => ((Only.refl [] _).alloc o2).blk (Blk.new w t cs) (by simp)
  have kA : ∀ cs t o1, Blk ((w.alloc o1).alloc (.cells cs t)) (w.heap.size + 1) t cs := fun cs t o1 => by
    have := Blk.new (w.alloc o1) t cs
    simpa using this
  obtain ⟨R, hR⟩ : ∃ R, R = s.do c := ⟨_, rfl⟩
  rw [← hR]
  have HR := Lib.hid hR
  clear hR
  rw [show c.val (.slice A1 c.events.length cap1) = .agg #[.int .i64 c.kind, .int .i64 c.time, .string c.stream, .int .i64 c.expected, .slice A1 c.events.length cap1, .int .i64 c.mt.maxCount, .int .i64 c.mt.maxAge, .int .i64 c.mt.before] from rfl]
  have hk1 : (c.check != 0) = true := by rw [bne_iff_ne]; exact hk
  have HK := Lib.hid hk
  obtain ⟨ck, hck⟩ : ∃ ck, ck = c.check := ⟨_, rfl⟩
  rw [← hck] at HCk hk1
  have HC := Lib.hid hck
  clear hk hck
  go_enter Try.func13, Try.ntmps13
  go_wp2_with (go_at_call 36; refine (HCk.out _ (h2 _ _)).mono ?_; rintro e w1 ⟨rfl, ho1⟩; have hA1 := fun i => (ho1.blk (kA _ _ _) (by simp)).cell i; have hA1f := fun i => (ho1.blk (kA _ _ _) (by simp)).free i)
  have hR := HR.out
  subst hR
  have hE : s.do c = (⟨ck, 0, 0, false⟩, s) := by
    unfold MS.do
    rw [HC.out, if_pos HK.out]
  refine bodyPost_ret (v := .agg #[.int .i64 ck, .int .i64 0, .int .i64 0, .bool false]) (by simp [results, Try.results13, go_sem, hA1]) rfl ?_
  rw [hE]
  refine ⟨rfl, StLeads.same h ?hw⟩
  case hw =>
    iterate 4 (refine Only.setCell ?_ (.inr (by simp <;> omega)) _)
    exact (h2 _ _).trans ho1
set_option maxRecDepth 100000 in
set_option maxHeartbeats 4000000 in
theorem do_mark {w : World} {M : List Nat} {sb mb N : Nat} {av ev : Value} {pf : ByteArray → Value} {s : MS} {c : Cmd} (h : StAt w M sb mb av pf s) (hs : s.Ok N) (hN : N ≤ 100000) (hc : CmdOk c)
    (he : Rd M w 4 ev c.events.length (c.events.flatMap EventR.cells)) (hk : c.check = 0) (hm : c.kind = 4 ∨ c.kind = 5) :
    Calls Try.prog 13 #[.pointer (some ⟨sb, 0, none⟩), c.val ev] w fun e w' => e = .returned (s.do c).1.val ∧ StLeads w M sb mb av (s.do c).2 w' := by
  obtain ⟨A1, cap1, hev, hn3, hn4, hes⟩ := he.1.openE EventR.cells (fun _ => rfl)
  obtain ⟨A2, cap2, hav, hnc2, hcm2, hel2⟩ := h.cell
  unfold maxLen at hn4 hcm2
  have hsb := h.blk.lt
  subst hev
  have HCk := Lib.hid (fun (W : World) (hw : Only [] w W) => show Calls Try.prog 36 #[.agg #[.int .i64 c.kind, .int .i64 c.time, .string c.stream, .int .i64 c.expected, .slice A1 c.events.length cap1, .int .i64 c.mt.maxCount, .int .i64 c.mt.maxAge, .int .i64 c.mt.before]] W fun e w' => e = .returned (.int .i64 c.check) ∧ Only [] W w' from check_any c _ W (he.1.only0 hw) hc)
  have h2 : ∀ o1 o2, Only [] w ((w.alloc o1).alloc o2) := fun o1 o2 => ((Only.refl [] w).alloc o1).alloc o2
  have kC : ∀ cs t o2, Blk ((w.alloc (.cells cs t)).alloc o2) w.heap.size t cs := fun cs t o2 => ((Only.refl [] _).alloc o2).blk (Blk.new w t cs) (by simp)
  have kA : ∀ cs t o1, Blk ((w.alloc o1).alloc (.cells cs t)) (w.heap.size + 1) t cs := fun cs t o1 => by
    have := Blk.new (w.alloc o1) t cs
    simpa using this
  obtain ⟨R, hR⟩ : ∃ R, R = s.do c := ⟨_, rfl⟩
  rw [← hR]
  have HR := Lib.hid hR
  clear hR
  rw [show c.val (.slice A1 c.events.length cap1) = .agg #[.int .i64 c.kind, .int .i64 c.time, .string c.stream, .int .i64 c.expected, .slice A1 c.events.length cap1, .int .i64 c.mt.maxCount, .int .i64 c.mt.maxAge, .int .i64 c.mt.before] from rfl]
  have HK := Lib.hid hk
  rw [hk] at HCk
  clear hk
  go_enter Try.func13, Try.ntmps13
  go_wp2_with (go_at_call 36; refine (HCk.out _ (h2 _ _)).mono ?_; rintro e w1 ⟨rfl, ho1⟩)
  have hdn := IntWalk.i64_in (s.done + 1) ⟨by have := hs.done; omega, by have := hs.done; omega⟩
  have hne0 : w.heap.size ≠ sb := by omega
  obtain ⟨t, ht⟩ : ∃ t, t = max s.now c.time := ⟨_, rfl⟩
  have hmx : (if s.now < c.time then c.time else s.now) = t := by rw [ht]; split <;> omega
  have hmy : (if c.time > s.now then c.time else s.now) = t := hmx
  have HT := Lib.hid ht
  clear ht
  have bC1 := ho1.blk (kC _ _ _) (by simp)
  have bA1 := ho1.blk (kA _ _ _) (by simp)
  have hO1 : Only [] w w1 := (h2 _ _).trans ho1
  have bS1 := hO1.blk h.blk (by simp)
  have C1 := WithinE.cell (E := fun W => W.cell? ⟨sb, 2, none⟩ = some (.int .i64 s.done)) (S := [sb]) (bC1.cell 1) (by simp; omega)
  have D2 := fun p : WithinE [sb] (fun W => W.cell? ⟨sb, 2, none⟩ = some (.int .i64 s.done)) w1 => p.e
  refine wp_region_inE [sb] [0, 1, 2, 3, 4, 6, 7, 9, 10, 11, 12, 13] [5, 8, 14, 15, 16] [17, 18, 19] (fun W => W.cell? ⟨sb, 2, none⟩ = some (.int .i64 s.done)) (bS1.cell 2) (by kernel_rfl) (by kernel_rfl) (by intro c d u a w h; cases d <;> exact h) ?_
  intro hne
  show wpQuiet _ _ _ _ [_, _, _, _, _, _, _, _, _, _, _, _] _
  repeat (go_big_quiet_step (fail))
  refine wpQuiet_nil ?_
  show wpList _ _ _ [_] _ _
  have hSf := fun i => bS1.free i
  have hSc := fun i => bS1.cell i
  have N3 : w1.drew.cell? ⟨sb, 3, none⟩ = some (.int .i64 s.now) := bS1.cell 3
  go_wp2_with fail
  refine check_ofE (S := [sb]) (Only.refl _ _).drew (bS1.cell 2) ?_
  show wpList _ _ _ [_] _ _
  go_wp2_with fail
  refine check_ofE (S := [sb]) (Only.refl _ _).drew (bS1.cell 2) ?_
  show wpList _ _ _ [_] _ _
  go_wp2_with fail
  refine check_ofE (S := [sb]) (Only.refl _ _).drew (bS1.cell 2) ?_
  show wpList _ _ _ [_] _ _
  go_wp2_with fail
  refine check_ofE (S := [sb]) (Only.refl _ _).drew (bS1.cell 2) ?_
  show wpList _ _ _ [_] _ _
  go_wp2_with fail
  refine check_ofE (S := [sb]) (((Only.refl _ _).setCell (.inl (by simp)) _).drew) ((bS1.set 3 _).cell 2) ?_
  show wpList _ _ _ [_, _, _] _ _
  have hO2 := fun u v => ((Only.refl [sb] w1).setCell (p := ⟨sb, 3, none⟩) (.inl (by simp)) u).setCell (p := ⟨sb, 2, none⟩) (.inl (by simp)) v
  have hC2 := fun u v i => ((hO2 u v).blk bC1 (by simp; omega)).cell i
  have hC2' := fun u v i => ((hO2 u v).drew.blk bC1 (by simp; omega)).cell i
  have hA2 := fun u v i => ((hO2 u v).blk bA1 (by simp; omega)).cell i
  have hA2f := fun u v i => ((hO2 u v).blk bA1 (by simp; omega)).free i
  have hS2 := fun u v => ((bS1.set 3 u).set 2 v).cell 0
  rw [hav] at hS2
  rcases hm with hm | hm
  · have hk4 : ((c.kind : Int) == 4) = true := by rw [beq_iff_eq]; omega
    have hk5 : ((c.kind : Int) == 5) = false := by rw [beq_eq_false_iff_ne]; omega
    have HM : Hid (c.kind = 4 ∨ c.kind = 5) := .inl hm
    clear hm
    go_wp2
    have hR := HR.out
    subst hR
    refine bodyPost_ret (v := .agg #[.int .i64 0, .int .i64 0, .int .i64 s.all.length, .bool false]) (by simp [results, Try.results13, go_sem, hA2]) rfl ?_
    have hE : s.do c = (⟨0, 0, s.all.length, false⟩, { s with now := t, done := s.done + 1 }) := by
      unfold MS.do
      rw [if_neg (by rw [HK.out]; decide), HT.out]
      dsimp only
      rw [if_pos HM.out]
      rfl
    rw [hE]
    have hb0 := (bS1.set 3 (.int .i64 t)).set 2 (.int .i64 (s.done + 1))
    refine ⟨rfl, M, av, pf, StAt.ticked h ?hw (Only.blk (S := [w.heap.size + 1]) ?ho hb0 (by simp; omega)), Only.mono ?hw (by simp [hM]), fun _ q => q, fun _ q => .inl q, fun _ q => .inl q⟩
    case hw =>
      refine Only.drew ?_
      iterate 4 (refine Only.setCell ?_ (.inr (by simp <;> omega)) _)
      iterate 2 (refine Only.setCell ?_ (.inl (by simp)) _)
      exact hO1.of_nil
    case ho =>
      refine Only.drew ?_
      iterate 4 (refine Only.setCell ?_ (.inl (by simp)) _)
      exact Only.refl _ _
  · have hk4 : ((c.kind : Int) == 4) = false := by rw [beq_eq_false_iff_ne]; omega
    have hk5 : ((c.kind : Int) == 5) = true := by rw [beq_iff_eq]; omega
    have HM : Hid (c.kind = 4 ∨ c.kind = 5) := .inr hm
    clear hm
    go_wp2
    have hR := HR.out
    subst hR
    refine bodyPost_ret (v := .agg #[.int .i64 0, .int .i64 0, .int .i64 s.all.length, .bool false]) (by simp [results, Try.results13, go_sem, hA2]) rfl ?_
    have hE : s.do c = (⟨0, 0, s.all.length, false⟩, { s with now := t, done := s.done + 1 }) := by
      unfold MS.do
      rw [if_neg (by rw [HK.out]; decide), HT.out]
      dsimp only
      rw [if_pos HM.out]
      rfl
    rw [hE]
    have hb0 := (bS1.set 3 (.int .i64 t)).set 2 (.int .i64 (s.done + 1))
    refine ⟨rfl, M, av, pf, StAt.ticked h ?hw (Only.blk (S := [w.heap.size + 1]) ?ho hb0 (by simp; omega)), Only.mono ?hw (by simp [hM]), fun _ q => q, fun _ q => .inl q, fun _ q => .inl q⟩
    case hw =>
      refine Only.drew ?_
      iterate 4 (refine Only.setCell ?_ (.inr (by simp <;> omega)) _)
      iterate 2 (refine Only.setCell ?_ (.inl (by simp)) _)
      exact hO1.of_nil
    case ho =>
      refine Only.drew ?_
      iterate 4 (refine Only.setCell ?_ (.inl (by simp)) _)
      exact Only.refl _ _
end Go.Proofs.Ytefkhkbkengniaa

/- Proved here: contracts of functions and plain laws, part 46 of one proof. Conditions: each theorem names its own. -/
import Derived.Test.YteinoiicnmemhaaGreatDoorZ42
import Derived.Test.YteinoiicnmemhaaGreatDoorZ45
set_option linter.unusedSimpArgs false
set_option linter.unusedVariables false
namespace Go.Proofs.YteinoiicnmemhaaGreatDoor
section
open Go.RowKit Go Go.Sort
def DoneV.cells (d : DoneV) : List Value := [.int .i64 d.nd, .int .i64 d.id, .int .i64 d.req.x.c.kind, .int .i64 d.req.x.c.time, .string d.req.x.c.stream, .int .i64 d.req.x.c.expected, d.req.x.ev, .int .i64 d.req.x.c.mt.maxCount, .int .i64 d.req.x.c.mt.maxAge, .int .i64 d.req.x.c.mt.before,
  .bool d.req.read, .bool d.req.all, .int .i64 d.req.fr, .int .i64 d.req.n, .bool d.req.back, .int .i64 d.rid, .int .i64 d.place, .int .i64 d.ans.err, .int .i64 d.ans.version, .int .i64 d.ans.position, .bool d.ans.again, d.pv, .int .i64 d.pg.next, .bool d.pg.isEnd, .int .i64 d.asked, .int .i64 d.answered]
structure DoneOk (w : World) (d : DoneV) : Prop where
  ev : Slc w 4 d.req.x.ev d.req.x.c.events.length (d.req.x.c.events.flatMap EventR.cells)
  few : d.req.x.c.events.length ≤ 1000000
  stream : d.req.x.c.stream.size ≤ maxLen
  pg : Slc w 8 d.pv d.pg.events.length (d.pg.events.flatMap StoredR.cells)
  pfew : d.pg.events.length ≤ 1000000
section
variable {a w w' : World} {R E : List Nat} {sb mb N : Nat} {s : MS} {d : DoneV} {c : Cmd} {an : Ans} {v : Value}
theorem DoneOk.keep0 (h : DoneOk w d) (k : Only [] w w') : DoneOk w' d := ⟨h.ev.only0 k, h.few, h.stream, h.pg.only0 k, h.pfew⟩
theorem nb1 (w : World) (o0 o2 o3 : Obj) (c : Array Value) (t : TypeId) : Blk ((((w.alloc o0).alloc (.cells c t)).alloc o2).alloc o3) (w.heap.size + 1) t c := by
  have := Blk.new (w.alloc o0) t c
  rw [World.size_alloc] at this
  exact (((Only.refl [] _).alloc o2).alloc o3).blk this (by simp)
theorem nb2 (w : World) (o0 o1 o3 : Obj) (c : Array Value) (t : TypeId) : Blk ((((w.alloc o0).alloc o1).alloc (.cells c t)).alloc o3) (w.heap.size + 1 + 1) t c := by
  have := Blk.new ((w.alloc o0).alloc o1) t c
  rw [World.size_alloc, World.size_alloc] at this
  exact ((Only.refl [] _).alloc o3).blk this (by simp)
theorem nb0 (w : World) (o1 o2 o3 : Obj) (c : Array Value) (t : TypeId) : Blk ((((w.alloc (.cells c t)).alloc o1).alloc o2).alloc o3) w.heap.size t c :=
  ((((Only.refl [] _).alloc o1).alloc o2).alloc o3).blk (Blk.new w t c) (by simp)
theorem nb4 (w : World) (o0 o1 o2 o3 : Obj) (c : Array Value) (t : TypeId) : Blk (((((w.alloc o0).alloc o1).alloc o2).alloc o3).alloc (.cells c t)) (w.heap.size + 1 + 1 + 1 + 1) t c := by
  have := Blk.new ((((w.alloc o0).alloc o1).alloc o2).alloc o3) t c
  rw [World.size_alloc, World.size_alloc, World.size_alloc, World.size_alloc] at this
  exact this
theorem ans_ext {a b c : Int} {d : Bool} {a' b' c' : Int} {d' : Bool} : ((⟨a, b, c, d⟩ : Ans) = ⟨a', b', c', d'⟩) ↔ (a = a' ∧ b = b' ∧ c = c' ∧ d = d') := by simp
set_option maxRecDepth 100000 in
set_option maxHeartbeats 4000000 in
theorem right_no (hr : d.req.read = false) (hd : DoneOk w d) (he : Slc w 4 v c.events.length (c.events.flatMap EventR.cells)) (hf : c.events.length ≤ 1000000) :
    Calls Tryz.prog 41 #[.pointer (some ⟨sb, 0, none⟩), .agg #[.int .i64 c.kind, .int .i64 c.time, .string c.stream, .int .i64 c.expected, v, .int .i64 c.mt.maxCount, .int .i64 c.mt.maxAge, .int .i64 c.mt.before], .agg #[.int .i64 an.err, .int .i64 an.version, .int .i64 an.position, .bool an.again],
      .agg #[.int .i64 d.nd, .int .i64 d.id, .int .i64 d.req.x.c.kind, .int .i64 d.req.x.c.time, .string d.req.x.c.stream, .int .i64 d.req.x.c.expected, d.req.x.ev, .int .i64 d.req.x.c.mt.maxCount, .int .i64 d.req.x.c.mt.maxAge, .int .i64 d.req.x.c.mt.before,
  .bool d.req.read, .bool d.req.all, .int .i64 d.req.fr, .int .i64 d.req.n, .bool d.req.back, .int .i64 d.rid, .int .i64 d.place, .int .i64 d.ans.err, .int .i64 d.ans.version, .int .i64 d.ans.position, .bool d.ans.again, d.pv, .int .i64 d.pg.next, .bool d.pg.isEnd, .int .i64 d.asked, .int .i64 d.answered]] w fun e w' => e = .returned (.bool (rightF s c an d)) ∧ Only [] w w' := by
  obtain ⟨nd, id, ⟨⟨⟨k2, t2, s2, x2, l2, ⟨a2, b2, d2⟩⟩, v2⟩, read, all, fr, n, back⟩, rid, place, ⟨er, ver, pos, ag⟩, ⟨pl, pn, pe⟩, pv, asked, answered⟩ := d
  obtain ⟨k1, t1, s1, x1, l1, ⟨a1, b1, d1⟩⟩ := c
  obtain ⟨er1, ver1, pos1, ag1⟩ := an
  obtain ⟨h1, h2, h3, h4, h5⟩ := hd
  simp only at h1 h2 h3 h4 h5 he hf hr ⊢
  subst hr
  have HA := Lib.hid (fun (W : World) (k : Only [] w W) => asame_any k1 t1 s1 x1 l1 a1 b1 d1 k2 t2 s2 x2 l2 a2 b2 d2 (he.only0 k) (h1.only0 k) hf h2)
  obtain ⟨A1, c1, rfl⟩ : ∃ A1 c1, v = .slice A1 l1.length c1 := by obtain ⟨A1, c1, q, _⟩ := he.openE EventR.cells (fun _ => rfl); exact ⟨A1, c1, q⟩
  obtain ⟨A2, c2, rfl⟩ : ∃ A2 c2, v2 = .slice A2 l2.length c2 := by obtain ⟨A2, c2, q, _⟩ := h1.openE EventR.cells (fun _ => rfl); exact ⟨A2, c2, q⟩
  obtain ⟨A3, c3, rfl⟩ : ∃ A3 c3, pv = .slice A3 pl.length c3 := by obtain ⟨A3, c3, q, _⟩ := h4.openE StoredR.cells (fun _ => rfl); exact ⟨A3, c3, q⟩
  obtain ⟨b0, hb0⟩ : ∃ b, sameC0 ⟨k1, t1, s1, x1, l1, ⟨a1, b1, d1⟩⟩ ⟨k2, t2, s2, x2, l2, ⟨a2, b2, d2⟩⟩ = b := ⟨_, rfl⟩
  rw [hb0] at HA
  have H0 := Lib.hid hb0
  clear h1 h2 h3 h4 h5 he hf hb0
  go_enter Tryz.func41, Tryz.ntmps41
  go_wp2_with fail
  refine (HA.out _ (((((Only.refl [] w).alloc _).alloc _).alloc _).alloc _)).mono ?_
  rintro e w1 ⟨rfl, ho1⟩
  have g6 := fun i => (ho1.blk (nb1 _ _ _ _ _ _) (by simp)).cell i
  have g7 := fun i => (ho1.blk (nb2 _ _ _ _ _ _) (by simp)).cell i
  clear HA
  cases b0
  · go_wp2_with fail
    go_ret
    refine ⟨ret_b (by simp [rightF, H0.out, ans_ext, Bool.false_and]), ?_⟩
    exact ((((Only.refl [] w).alloc _).alloc _).alloc _).alloc _ |>.trans ho1
  · by_cases q1 : er1 = er
    · by_cases q2 : ver1 = ver
      · by_cases q3 : pos1 = pos
        · cases ag1 <;> cases ag
          · go_wp2_with fail
            go_ret
            refine ⟨ret_b (by simp [rightF, H0.out, ans_ext, q1, q2, q3]), ?_⟩
            exact ((((Only.refl [] w).alloc _).alloc _).alloc _).alloc _ |>.trans ho1
          · go_wp2_with fail
            go_ret
            refine ⟨ret_b (by simp [rightF, H0.out, ans_ext, q1, q2, q3]), ?_⟩
            exact ((((Only.refl [] w).alloc _).alloc _).alloc _).alloc _ |>.trans ho1
          · go_wp2_with fail
            go_ret
            refine ⟨ret_b (by simp [rightF, H0.out, ans_ext, q1, q2, q3]), ?_⟩
            exact ((((Only.refl [] w).alloc _).alloc _).alloc _).alloc _ |>.trans ho1
          · go_wp2_with fail
            go_ret
            refine ⟨ret_b (by simp [rightF, H0.out, ans_ext, q1, q2, q3]), ?_⟩
            exact ((((Only.refl [] w).alloc _).alloc _).alloc _).alloc _ |>.trans ho1
        · go_wp2_with fail
          go_ret
          refine ⟨ret_b (by simp [rightF, H0.out, ans_ext, q1, q2, q3]), ?_⟩
          exact ((((Only.refl [] w).alloc _).alloc _).alloc _).alloc _ |>.trans ho1
      · go_wp2_with fail
        go_ret
        refine ⟨ret_b (by simp [rightF, H0.out, ans_ext, q1, q2]), ?_⟩
        exact ((((Only.refl [] w).alloc _).alloc _).alloc _).alloc _ |>.trans ho1
    · go_wp2_with fail
      go_ret
      refine ⟨ret_b (by simp [rightF, H0.out, ans_ext, q1]), ?_⟩
      exact ((((Only.refl [] w).alloc _).alloc _).alloc _).alloc _ |>.trans ho1
theorem readQ_few {q : ReqV} (hi : s.Inv) (h2 : s.Inv2) : (readQ s q).1.events.length ≤ s.all.length := by
  unfold readQ
  split
  · refine Nat.le_trans (pageBy_few _ _ _ _ _) ?_
    unfold MS.seenAll
    exact List.length_filter_le _ _
  · exact readP_few hi h2 _ _ _ _
set_option maxRecDepth 100000 in
set_option maxHeartbeats 4000000 in
theorem right_yes (hr : d.req.read = true) (h : HasS a w R E sb mb s N) (hN : N ≤ 100000) (hi2 : s.Inv2) (hd : DoneOk w d) (he : Slc w 4 v c.events.length (c.events.flatMap EventR.cells)) (hf : c.events.length ≤ 1000000) :
    Calls Tryz.prog 41 #[.pointer (some ⟨sb, 0, none⟩), .agg #[.int .i64 c.kind, .int .i64 c.time, .string c.stream, .int .i64 c.expected, v, .int .i64 c.mt.maxCount, .int .i64 c.mt.maxAge, .int .i64 c.mt.before], .agg #[.int .i64 an.err, .int .i64 an.version, .int .i64 an.position, .bool an.again],
      .agg #[.int .i64 d.nd, .int .i64 d.id, .int .i64 d.req.x.c.kind, .int .i64 d.req.x.c.time, .string d.req.x.c.stream, .int .i64 d.req.x.c.expected, d.req.x.ev, .int .i64 d.req.x.c.mt.maxCount, .int .i64 d.req.x.c.mt.maxAge, .int .i64 d.req.x.c.mt.before,
  .bool d.req.read, .bool d.req.all, .int .i64 d.req.fr, .int .i64 d.req.n, .bool d.req.back, .int .i64 d.rid, .int .i64 d.place, .int .i64 d.ans.err, .int .i64 d.ans.version, .int .i64 d.ans.position, .bool d.ans.again, d.pv, .int .i64 d.pg.next, .bool d.pg.isEnd, .int .i64 d.asked, .int .i64 d.answered]] w fun e w' => e = .returned (.bool (rightF s c an d)) ∧ Only [] w w' := by
  have hpb := readQ_few (q := d.req) h.inv hi2
  have hal := h.ok.all
  obtain ⟨nd, id, ⟨⟨⟨k2, t2, s2, x2, l2, ⟨a2, b2, d2⟩⟩, v2⟩, read, all, fr, n, back⟩, rid, place, ⟨er, ver, pos, ag⟩, ⟨pl, pn, pe⟩, pv, asked, answered⟩ := d
  obtain ⟨k1, t1, s1, x1, l1, ⟨a1, b1, d1⟩⟩ := c
  obtain ⟨er1, ver1, pos1, ag1⟩ := an
  obtain ⟨h1, h2, h3, h4, h5⟩ := hd
  simp only at h1 h2 h3 h4 h5 he hf hr ⊢
  subst hr
  obtain ⟨A1, c1, rfl⟩ : ∃ A1 c1, v = .slice A1 l1.length c1 := by obtain ⟨A1, c1, q, _⟩ := he.openE EventR.cells (fun _ => rfl); exact ⟨A1, c1, q⟩
  obtain ⟨A2, c2, rfl⟩ : ∃ A2 c2, v2 = .slice A2 l2.length c2 := by obtain ⟨A2, c2, q, _⟩ := h1.openE EventR.cells (fun _ => rfl); exact ⟨A2, c2, q⟩
  obtain ⟨A3, c3, rfl⟩ : ∃ A3 c3, pv = .slice A3 pl.length c3 := by obtain ⟨A3, c3, q, _⟩ := h4.openE StoredR.cells (fun _ => rfl); exact ⟨A3, c3, q⟩
  obtain ⟨Q, hQ⟩ : ∃ Q : ReqV, Q = ⟨⟨⟨k2, t2, s2, x2, l2, ⟨a2, b2, d2⟩⟩, .slice A2 l2.length c2⟩, true, all, fr, n, back⟩ := ⟨_, rfl⟩
  have HL1 := Lib.hid (fun (W : World) (k : Only [] w W) => page_lit (sall_any (h.keep k) hN fr n back))
  have HL2 := Lib.hid (fun (W : World) (k : Only [] w W) => page_lit (sread_any (h.keep k) hN s2 h3 fr n back))
  have hq1 : all = true → readQ s Q = pageBy StoredR.position s.seenAll fr n back := fun q => by rw [hQ, q]; rfl
  have hq2 : all = false → readQ s Q = s.readP s2 fr n back := fun q => by rw [hQ, q]; rfl
  rw [← hQ] at hpb
  obtain ⟨⟨⟨ps, qn, qe⟩, pr⟩, hrq⟩ : ∃ r, readQ s Q = r := ⟨_, rfl⟩
  rw [hrq] at hpb hq1 hq2
  rw [hQ] at hrq
  have H0 := Lib.hid hrq
  have hlp : ps.length ≤ 1000000 := by simp only at hpb; omega
  have HP := Lib.hid (fun (w1 W : World) (A c : _) (S : List Nat) (kS : Only S w1 W) (kW : Only [] w W) (ho : w1.ownsRow (w.heap.size + 1 + 1 + 1 + 1 + 1) 92 8 (.slice A ps.length c) ps.length (ps.flatMap StoredR.cells)) (hS : ∀ g ∈ S, g < w.heap.size + 1 + 1 + 1 + 1 + 1) =>
    vsamePage_any ps pl qn pn qe pe (v1 := .slice A ps.length c) (Slc.of_own (own_only ho kS (fun g hg q => by have := (World.ownsRow.lt ho g hg).1; have := hS g q; omega))).1 (h4.only0 kW) hlp h5)
  clear h1 h2 h3 h4 h5 he hf hpb hrq hQ h hi2 hal hlp
  cases all
  · have hqq := hq2 rfl
    rw [← hqq] at HL2
    simp only at HL2
    clear hq1 hq2 hqq HL1
    go_enter Tryz.func41, Tryz.ntmps41
    go_wp2_with fail
    refine (HL2.out _ (((((((Only.refl [] w).alloc _).alloc _).alloc _).alloc _).alloc _))).mono ?_
    rintro e w1 ⟨Ap, cp, rfl, hown, ho1⟩
    simp only [World.size_alloc] at hown
    have g5b := ho1.blk (((Only.refl [] _).alloc _).blk (nb0 _ _ _ _ _ _) (by simp)) (by simp)
    have g6b := ho1.blk (((Only.refl [] _).alloc _).blk (nb1 _ _ _ _ _ _) (by simp)) (by simp)
    have g7b := ho1.blk (((Only.refl [] _).alloc _).blk (nb2 _ _ _ _ _ _) (by simp)) (by simp)
    have g8b := ho1.blk (nb4 _ _ _ _ _ _ _) (by simp)
    have g5 := fun i => g5b.cell i
    have g6 := fun i => g6b.cell i
    have f6 := fun i => g6b.free i
    have g7 := fun i => g7b.cell i
    have g8 := fun i => g8b.cell i
    have f8 := fun i => g8b.free i
    have HW1 := Lib.hid ((((((((Only.refl [] w).alloc _).alloc _).alloc _).alloc _).alloc _)).trans ho1)
    have HOw := Lib.hid hown
    clear HL2 g5b g6b g7b g8b hown ho1
    by_cases q0 : k1 = 4
    · by_cases q1 : pr = er
      · by_cases q2 : ver1 = ver
        · by_cases q3 : pos1 = pos
          · cases ag1 <;> cases ag
            · go_wp2_with fail
              refine (HP.out w1 _ Ap cp [w.heap.size + 1 + 1 + 1 + 1, w.heap.size + 1] ?hs1 ?hs2 HOw.out (by intro g hg; simp at hg; omega)).mono ?_
              case hs1 =>
                iterate 4 (refine Only.setCell ?_ (.inl (by simp)) _)
                exact Only.refl _ _
              case hs2 =>
                iterate 4 (refine Only.setCell ?_ (.inr (by first | (simp; done) | (simp; omega) | omega)) _)
                exact HW1.out
              rintro e w2 ⟨rfl, ho2⟩
              go_wp2_with fail
              go_ret
              refine ⟨ret_b (by simp [rightF, H0.out, ans_ext, q0, q1, q2, q3]), ?_⟩
              refine Only.trans ?_ ho2
              iterate 4 (refine Only.setCell ?_ (.inr (by first | (simp; done) | (simp; omega) | omega)) _)
              exact HW1.out
            · go_wp2_with fail
              go_ret
              refine ⟨ret_b (by simp [rightF, H0.out, ans_ext, q0, q1, q2, q3]), ?_⟩
              repeat (refine Only.setCell ?_ (.inr (by first | (simp; done) | (simp; omega) | omega)) _)
              exact HW1.out
            · go_wp2_with fail
              go_ret
              refine ⟨ret_b (by simp [rightF, H0.out, ans_ext, q0, q1, q2, q3]), ?_⟩
              repeat (refine Only.setCell ?_ (.inr (by first | (simp; done) | (simp; omega) | omega)) _)
              exact HW1.out
            · go_wp2_with fail
              refine (HP.out w1 _ Ap cp [w.heap.size + 1 + 1 + 1 + 1, w.heap.size + 1] ?hs1 ?hs2 HOw.out (by intro g hg; simp at hg; omega)).mono ?_
              case hs1 =>
                iterate 4 (refine Only.setCell ?_ (.inl (by simp)) _)
                exact Only.refl _ _
              case hs2 =>
                iterate 4 (refine Only.setCell ?_ (.inr (by first | (simp; done) | (simp; omega) | omega)) _)
                exact HW1.out
              rintro e w2 ⟨rfl, ho2⟩
              go_wp2_with fail
              go_ret
              refine ⟨ret_b (by simp [rightF, H0.out, ans_ext, q0, q1, q2, q3]), ?_⟩
              refine Only.trans ?_ ho2
              iterate 4 (refine Only.setCell ?_ (.inr (by first | (simp; done) | (simp; omega) | omega)) _)
              exact HW1.out
          · go_wp2_with fail
            go_ret
            refine ⟨ret_b (by simp [rightF, H0.out, ans_ext, q0, q1, q2, q3]), ?_⟩
            repeat (refine Only.setCell ?_ (.inr (by first | (simp; done) | (simp; omega) | omega)) _)
            exact HW1.out
        · go_wp2_with fail
          go_ret
          refine ⟨ret_b (by simp [rightF, H0.out, ans_ext, q0, q1, q2]), ?_⟩
          repeat (refine Only.setCell ?_ (.inr (by first | (simp; done) | (simp; omega) | omega)) _)
          exact HW1.out
      · go_wp2_with fail
        go_ret
        refine ⟨ret_b (by simp [rightF, H0.out, ans_ext, q0, q1]), ?_⟩
        repeat (refine Only.setCell ?_ (.inr (by first | (simp; done) | (simp; omega) | omega)) _)
        exact HW1.out
    · go_wp2_with fail
      go_ret
      refine ⟨ret_b (by simp [rightF, H0.out, ans_ext, q0]), ?_⟩
      repeat (refine Only.setCell ?_ (.inr (by first | (simp; done) | (simp; omega) | omega)) _)
      exact HW1.out
  · have hqq := hq1 rfl
    rw [← hqq] at HL1
    simp only at HL1
    clear hq1 hq2 hqq HL2
    go_enter Tryz.func41, Tryz.ntmps41
    go_wp2_with fail
    refine (HL1.out _ (((((((Only.refl [] w).alloc _).alloc _).alloc _).alloc _).alloc _))).mono ?_
    rintro e w1 ⟨Ap, cp, rfl, hown, ho1⟩
    simp only [World.size_alloc] at hown
    have g5b := ho1.blk (((Only.refl [] _).alloc _).blk (nb0 _ _ _ _ _ _) (by simp)) (by simp)
    have g6b := ho1.blk (((Only.refl [] _).alloc _).blk (nb1 _ _ _ _ _ _) (by simp)) (by simp)
    have g7b := ho1.blk (((Only.refl [] _).alloc _).blk (nb2 _ _ _ _ _ _) (by simp)) (by simp)
    have g8b := ho1.blk (nb4 _ _ _ _ _ _ _) (by simp)
    have g5 := fun i => g5b.cell i
    have g6 := fun i => g6b.cell i
    have f6 := fun i => g6b.free i
    have g7 := fun i => g7b.cell i
    have g8 := fun i => g8b.cell i
    have f8 := fun i => g8b.free i
    have HW1 := Lib.hid ((((((((Only.refl [] w).alloc _).alloc _).alloc _).alloc _).alloc _)).trans ho1)
    have HOw := Lib.hid hown
    clear HL1 g5b g6b g7b g8b hown ho1
    by_cases q0 : k1 = 4
    · by_cases q1 : pr = er
      · by_cases q2 : ver1 = ver
        · by_cases q3 : pos1 = pos
          · cases ag1 <;> cases ag
            · go_wp2_with fail
              refine (HP.out w1 _ Ap cp [w.heap.size + 1 + 1 + 1 + 1, w.heap.size + 1] ?hs1 ?hs2 HOw.out (by intro g hg; simp at hg; omega)).mono ?_
              case hs1 =>
                iterate 4 (refine Only.setCell ?_ (.inl (by simp)) _)
                exact Only.refl _ _
              case hs2 =>
                iterate 4 (refine Only.setCell ?_ (.inr (by first | (simp; done) | (simp; omega) | omega)) _)
                exact HW1.out
              rintro e w2 ⟨rfl, ho2⟩
              go_wp2_with fail
              go_ret
              refine ⟨ret_b (by simp [rightF, H0.out, ans_ext, q0, q1, q2, q3]), ?_⟩
              refine Only.trans ?_ ho2
              iterate 4 (refine Only.setCell ?_ (.inr (by first | (simp; done) | (simp; omega) | omega)) _)
              exact HW1.out
            · go_wp2_with fail
              go_ret
              refine ⟨ret_b (by simp [rightF, H0.out, ans_ext, q0, q1, q2, q3]), ?_⟩
              repeat (refine Only.setCell ?_ (.inr (by first | (simp; done) | (simp; omega) | omega)) _)
              exact HW1.out
            · go_wp2_with fail
              go_ret
              refine ⟨ret_b (by simp [rightF, H0.out, ans_ext, q0, q1, q2, q3]), ?_⟩
              repeat (refine Only.setCell ?_ (.inr (by first | (simp; done) | (simp; omega) | omega)) _)
              exact HW1.out
            · go_wp2_with fail
              refine (HP.out w1 _ Ap cp [w.heap.size + 1 + 1 + 1 + 1, w.heap.size + 1] ?hs1 ?hs2 HOw.out (by intro g hg; simp at hg; omega)).mono ?_
              case hs1 =>
                iterate 4 (refine Only.setCell ?_ (.inl (by simp)) _)
                exact Only.refl _ _
              case hs2 =>
                iterate 4 (refine Only.setCell ?_ (.inr (by first | (simp; done) | (simp; omega) | omega)) _)
                exact HW1.out
              rintro e w2 ⟨rfl, ho2⟩
              go_wp2_with fail
              go_ret
              refine ⟨ret_b (by simp [rightF, H0.out, ans_ext, q0, q1, q2, q3]), ?_⟩
              refine Only.trans ?_ ho2
              iterate 4 (refine Only.setCell ?_ (.inr (by first | (simp; done) | (simp; omega) | omega)) _)
              exact HW1.out
          · go_wp2_with fail
            go_ret
            refine ⟨ret_b (by simp [rightF, H0.out, ans_ext, q0, q1, q2, q3]), ?_⟩
            repeat (refine Only.setCell ?_ (.inr (by first | (simp; done) | (simp; omega) | omega)) _)
            exact HW1.out
        · go_wp2_with fail
          go_ret
          refine ⟨ret_b (by simp [rightF, H0.out, ans_ext, q0, q1, q2]), ?_⟩
          repeat (refine Only.setCell ?_ (.inr (by first | (simp; done) | (simp; omega) | omega)) _)
          exact HW1.out
      · go_wp2_with fail
        go_ret
        refine ⟨ret_b (by simp [rightF, H0.out, ans_ext, q0, q1]), ?_⟩
        repeat (refine Only.setCell ?_ (.inr (by first | (simp; done) | (simp; omega) | omega)) _)
        exact HW1.out
    · go_wp2_with fail
      go_ret
      refine ⟨ret_b (by simp [rightF, H0.out, ans_ext, q0]), ?_⟩
      repeat (refine Only.setCell ?_ (.inr (by first | (simp; done) | (simp; omega) | omega)) _)
      exact HW1.out
end
end
section
open Go.RowKit Go Go.Sort
theorem check_err (c : Cmd) : c.check = 0 ∨ c.check = 1 ∨ c.check = 2 := by
  have he : eventsE c.events = 0 ∨ eventsE c.events = 1 ∨ eventsE c.events = 2 := by
    unfold eventsE
    repeat' split
    all_goals simp
  unfold Cmd.check
  repeat' split
  all_goals first | exact he | simp
theorem again_err (s : MS) (c : Cmd) (x : StreamR) (v : Int) : (s.again c x v).err = 0 ∨ (s.again c x v).err = 22 := by
  unfold MS.again
  repeat' split
  all_goals simp [wrong]
theorem act_err (s : MS) (c : Cmd) (x : StreamR) : (s.act c x).1.err = 0 ∨ (s.act c x).1.err = 22 := by
  have h := again_err s c x (s.first x ((c.events.head?).map (·.id) |>.getD 0))
  unfold MS.act
  dsimp only
  repeat' split
  all_goals first | exact h | simp [wrong, MS.append]
theorem do_err (s : MS) (c : Cmd) : (s.do c).1.err ≠ 25 := by
  have h1 := check_err c
  unfold MS.do
  dsimp only
  split
  · show c.check ≠ 25
    omega
  · split
    · show (0 : Int) ≠ 25
      omega
    · split
      · show (23 : Int) ≠ 25
        omega
      · have h2 := act_err (s.tick c.time) c { (s.tick c.time).find c.stream with floor := (s.tick c.time).floorOf ((s.tick c.time).find c.stream) }
        rcases h2 with q | q <;> (intro z; have y := q.symm.trans z; omega)
theorem pageBy_err (key : StoredR → Int) (l : List StoredR) (f n : Int) (back : Bool) : (pageBy key l f n back).2 = 0 ∨ (pageBy key l f n back).2 = 1 := by
  unfold pageBy
  split <;> simp
theorem readQ_err (s : MS) (q : ReqV) : (readQ s q).2 ≠ 25 := by
  have h1 := pageBy_err StoredR.position s.seenAll q.fr q.n q.back
  have h2 := pageBy_err StoredR.version (s.seenL q.x.c.stream) q.fr q.n q.back
  unfold readQ MS.readP
  repeat' split
  all_goals first | omega | simp
theorem fwdGo_next (key : StoredR → Int) (f n : Int) : ∀ (l acc : List StoredR) (nx : Int), (∀ e ∈ l, 0 ≤ key e) → -1 ≤ nx → -1 ≤ (fwdGo key f n l acc nx).next
  | [], acc, nx, _, h => h
  | s :: l, acc, nx, hk, h => by
    have h1 := hk s (by simp)
    unfold fwdGo
    split
    · exact fwdGo_next key f n l acc nx (fun e he => hk e (by simp [he])) h
    · split
      · exact h
      · exact fwdGo_next key f n l _ _ (fun e he => hk e (by simp [he])) (by omega)
theorem bwdGo_next (key : StoredR → Int) (f n : Int) : ∀ (l acc : List StoredR) (nx : Int), -1 ≤ nx → -1 ≤ (bwdGo key f n l acc nx).next
  | [], acc, nx, h => h
  | s :: l, acc, nx, h => by
    unfold bwdGo
    split
    · exact bwdGo_next key f n l acc nx h
    · split
      · exact h
      · exact bwdGo_next key f n l _ _ (by omega)
theorem pageBy_next (key : StoredR → Int) (l : List StoredR) (f n : Int) (back : Bool) (hk : ∀ e ∈ l, 0 ≤ key e) : -1 ≤ (pageBy key l f n back).1.next := by
  unfold pageBy
  split
  · simp [PageR.zero]
  · rename_i h
    have hf : 0 ≤ f := by
      unfold wrongP at h
      simp at h
      omega
    cases back
    · exact fwdGo_next key f n l _ _ hk (by omega)
    · exact bwdGo_next key f n _ _ _ (by omega)
theorem readQ_next {s : MS} {N : Nat} (hi : s.Inv) (h2 : s.Inv2) (ok : s.Ok N) (hN : N ≤ 100000) (q : ReqV) : -1 ≤ (readQ s q).1.next := by
  have hp := pos_bd hi ok hN
  have hv := vers_bd hi ok hN
  have hA : ∀ e ∈ s.seenAll, e ∈ s.all := fun e he => by
    unfold MS.seenAll at he
    exact (List.mem_filter.1 he).1
  have hL : ∀ e ∈ s.seenL q.x.c.stream, e ∈ s.all := fun e he => by
    rw [seenL_filter hi h2] at he
    exact hA e (List.mem_filter.1 he).1
  have h3 := pageBy_next StoredR.position s.seenAll q.fr q.n q.back (fun e he => (hp e (hA e he)).1)
  have h4 := pageBy_next StoredR.version (s.seenL q.x.c.stream) q.fr q.n q.back (fun e he => (hv e (hL e he)).1)
  unfold readQ MS.readP
  repeat' split
  all_goals first | exact h3 | exact h4 | simp [PageR.zero]
section
variable {s : MS} {c : Cmd} {a : Ans} {d : DoneV}
/-- What a right answer is. -/
theorem right_ans (h : rightF s c a d = true) : d.ans = if d.req.read then { a with err := (readQ s d.req).2 } else a := by
  unfold rightF at h
  split at h
  · rename_i q
    simp only [Bool.and_eq_true, decide_eq_true_eq] at h
    rw [if_pos q, h.1.2]
  · rename_i q
    simp only [Bool.and_eq_true, decide_eq_true_eq] at h
    rw [if_neg q, h.2]
theorem spoilt_ans {d' : DoneV} (h : rightF s c a d = true) (hq : d'.req = d.req) (ha : d'.ans ≠ d.ans) : ¬ rightF s c a d' = true := fun h' => by
  have e1 := right_ans h
  have e2 := right_ans h'
  rw [hq] at e2
  exact ha (e2.trans e1.symm)
theorem spoilt_next {d' : DoneV} (hn : -1 ≤ (readQ s d.req).1.next) (hr : d.req.read = true) (hq : d'.req = d.req) (ha : d'.pg.next = -5) : ¬ rightF s c a d' = true := fun h' => by
  unfold rightF at h'
  rw [hq, if_pos hr] at h'
  simp only [Bool.and_eq_true, samePQ, decide_eq_true_eq] at h'
  omega
theorem spoilt_req {d' : DoneV} (h1 : c.stream.toList ≠ d'.req.x.c.stream.toList) (hq : d'.req.read = false) : ¬ rightF s c a d' = true := fun h' => by
  unfold rightF at h'
  rw [hq, if_neg (by simp)] at h'
  simp only [Bool.and_eq_true, sameC0, sameCQ, decide_eq_true_eq] at h'
  exact h1 h'.1.1.1.1.2
end
/-- The numbers of a place's state. -/
theorem run_inv : ∀ (l : List EntV) {s : MS} {N : Nat}, s.Inv → s.Inv2 → s.Ok N → (runE s l).Inv ∧ (runE s l).Inv2 ∧ (runE s l).Ok (N + l.length)
  | [], s, N, h1, h2, h3 => ⟨h1, h2, h3⟩
  | e :: l, s, N, h1, h2, h3 => by
    have := run_inv l (s := (s.do e.x.c).2) (N := N + 1) (inv_do h1 e.x.c) (inv2_do h1 h2 e.x.c) (MS.do_ok h3 e.x.c)
    rw [show (e :: l).length = l.length + 1 from rfl, show N + (l.length + 1) = N + 1 + l.length by omega]
    exact this
end
end Go.Proofs.YteinoiicnmemhaaGreatDoor

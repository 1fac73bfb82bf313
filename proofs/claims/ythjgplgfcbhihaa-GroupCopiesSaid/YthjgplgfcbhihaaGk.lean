/- A group's parts turned one by one: rows, maps, numbers; which blocks turn. -/
import Derived.Test.YthjgplgfcbhihaaGc4
set_option linter.unusedVariables false
set_option linter.unusedSimpArgs false
namespace Go.Proofs.Ythjgplgfcbhihaa
open Go.RowKit Go Go.Sort
/-- From w to w' only blocks of H turned; those of H' are of H or new. -/
structure Stepped (w w' : World) (H H' : List Nat) : Prop where
  only : ∃ S, Only S w w' ∧ ∀ b ∈ S, b ∈ H
  blk : ∀ b ∈ H', b ∈ H ∨ w.heap.size ≤ b
section
variable {a w w' w'' : World} {H H' H'' : List Nat}
theorem Stepped.refl (w : World) (H : List Nat) : Stepped w w H H := ⟨⟨[], Only.refl _ _, by simp⟩, fun b hb => .inl hb⟩
theorem Stepped.size (h : Stepped w w' H H') : w.heap.size ≤ w'.heap.size := by
  obtain ⟨⟨S, h1, _⟩, _⟩ := h
  exact h1.size
theorem Stepped.trans (h : Stepped w w' H H') (k : Stepped w' w'' H' H'') : Stepped w w'' H H'' := by
  have hz := h.size
  obtain ⟨⟨S, h1, h2⟩, h3⟩ := h
  obtain ⟨⟨T, k1, k2⟩, k3⟩ := k
  refine ⟨⟨S ++ T.filter (fun b => decide (b < w.heap.size)), ?_, fun b hb => ?_⟩, fun b hb => ?_⟩
  · refine (h1.mono (fun b hb => List.mem_append_left _ hb)).step k1 (fun b hb => ?_)
    by_cases q : b < w.heap.size
    · exact .inl (List.mem_append_right _ (List.mem_filter.2 ⟨hb, by simpa using q⟩))
    · exact .inr (by omega)
  · rcases List.mem_append.1 hb with q | q
    · exact h2 b q
    · obtain ⟨q1, q2⟩ := List.mem_filter.1 q
      rcases h3 b (k2 b q1) with q3 | q3
      · exact q3
      · have : b < w.heap.size := by simpa using q2
        omega
  · rcases k3 b hb with q | q
    · exact h3 b q
    · exact .inr (by omega)
theorem Stepped.then0 (h : Stepped w w' H H') (k : Only [] w' w'') : Stepped w w'' H H' := h.trans ⟨⟨[], k, by simp⟩, fun b hb => .inl hb⟩
theorem Stepped.first0 (k : Only [] w w') (h : Stepped w' w'' H H') : Stepped w w'' H H' := Stepped.trans ⟨⟨[], k, by simp⟩, fun b hb => .inl hb⟩ h
theorem Stepped.of {S : List Nat} (k : Only S w w') (hS : ∀ b ∈ S, b ∈ H) (hb : ∀ b ∈ H', b ∈ H ∨ w.heap.size ≤ b) : Stepped w w' H H' := ⟨⟨S, k, hS⟩, hb⟩
/-- Above the world a. -/
theorem Stepped.above (h : Stepped w w' H H') (ha : Only [] a w) (hH : ∀ b ∈ H, a.heap.size ≤ b) : Only [] a w' ∧ ∀ b ∈ H', a.heap.size ≤ b := by
  obtain ⟨⟨S, h1, h2⟩, h3⟩ := h
  refine ⟨ha.step h1 (fun b hb => .inr (hH b (h2 b hb))), fun b hb => ?_⟩
  rcases h3 b hb with q | q
  · exact hH b q
  · exact Nat.le_trans ha.size q
end
section
variable {w w1 w2 : World} {gb fb tb : Nat} {vw vp va vs v' : Value} {pf : ByteArray → Value} {g : GS} {l' : List Int}
theorem mem_hG {gb fb tb b : Nat} {L : List (Value × List Int)} : b ∈ hG gb fb tb L ↔ b = gb ∨ b = fb ∨ b = tb ∨ b ∈ blocksOf L := by simp [hG]
theorem swap2 {α : Type} (a b : α) (l : List α) : (a :: b :: l).Perm (b :: a :: l) := List.Perm.swap b a l
theorem rot3 {α : Type} (a b c : α) (l : List α) : (a :: b :: c :: l).Perm (c :: a :: b :: l) := (List.Perm.cons a (swap2 b c l)).trans (swap2 a c (b :: l))
theorem rot4 {α : Type} (a b c d : α) (l : List α) : (a :: b :: c :: d :: l).Perm (d :: a :: b :: c :: l) := (List.Perm.cons a (rot3 b c d l)).trans (swap2 a d (b :: c :: l))
theorem GAt.setW (h : GAt w gb fb tb vw vp va vs pf g) (k : RowTo w vw w1 v' l') :
    GAt (w1.setCell ⟨gb, 4, none⟩ v') gb fb tb v' vp va vs pf { g with waiting := l' } ∧ Stepped w (w1.setCell ⟨gb, 4, none⟩ v') (hG gb fb tb (rowsOf vw vp va vs pf g)) (hG gb fb tb (rowsOf v' vp va vs pf { g with waiting := l' })) := by
  have hv : ∀ b, vw.ownBlock = some b → b ∈ blocksOf (rowsOf vw vp va vs pf g) := fun b hb => mem_blocksOf.2 ⟨(vw, g.waiting), by simp [rowsOf], hb⟩
  have hgb : gb ∉ vw.ownBlock.toList := fun q => (h.rowne gb (hv gb (by simpa using q))).1 rfl
  have hfb : fb ∉ vw.ownBlock.toList := fun q => (h.rowne fb (hv fb (by simpa using q))).2.1 rfl
  have htb : tb ∉ vw.ownBlock.toList := fun q => (h.rowne tb (hv tb (by simpa using q))).2.2 rfl
  have hset : Only [gb] w1 (w1.setCell ⟨gb, 4, none⟩ v') := (Only.refl _ w1).setCell (.inl (by simp)) _
  have hnf := h.nef
  have hnt := h.net
  have hr1 : Rows w1 (rowsOf v' vp va vs pf { g with waiting := l' }) := by
    have := (h.rows.perm (List.Perm.refl _)).turn k
    exact this.perm (List.Perm.refl _)
  refine ⟨⟨?_, ?_, ?_, ?_, h.ne⟩, ?_⟩
  · exact (k.only.blk h.blk hgb).set 4 v'
  · exact (h.flight.only k.only hfb).only hset (by simp; exact fun q => hnf q)
  · exact (h.tries.only k.only htb).only hset (by simp; exact fun q => hnt q)
  · refine hr1.only hset (fun b hb q => ?_)
    have e : b = gb := by simpa using q
    subst e
    obtain ⟨p, hp, hq⟩ := mem_blocksOf.1 hb
    obtain ⟨cur, hcur⟩ := own_type (hr1.own p hp) hq
    exact hcur.other (k.only.blk h.blk hgb) (by decide) rfl
  · refine Stepped.of (S := gb :: vw.ownBlock.toList) ((k.only.mono (fun b hb => List.mem_cons_of_mem _ hb)).setCell (.inl (by simp)) _) (fun b hb => ?_) (fun b hb => ?_)
    · rcases List.mem_cons.1 hb with rfl | hb
      · exact mem_hG.2 (.inl rfl)
      · exact mem_hG.2 (.inr (.inr (.inr (hv b (by simpa using hb)))))
    · rcases mem_hG.1 hb with q | q | q | q
      · exact .inl (mem_hG.2 (.inl q))
      · exact .inl (mem_hG.2 (.inr (.inl q)))
      · exact .inl (mem_hG.2 (.inr (.inr (.inl q))))
      · obtain ⟨p, hp, hq⟩ := mem_blocksOf.1 q
        have hp' : p = (v', l') ∨ p ∈ rowsOf vw vp va vs pf g := by
          simp only [rowsOf, List.mem_cons] at hp ⊢
          rcases hp with hp | hp | hp | hp | hp
          · simp [hp]
          · simp [hp]
          · simp [hp]
          · simp [hp]
          · exact .inr (.inr (.inr (.inr (.inr hp))))
        rcases hp' with rfl | hp'
        · rcases k.blk b hq with q2 | q2
          · exact .inl (mem_hG.2 (.inr (.inr (.inr (hv b q2)))))
          · exact .inr q2
        · exact .inl (mem_hG.2 (.inr (.inr (.inr (mem_blocksOf.2 ⟨p, hp', hq⟩)))))
theorem GAt.setP (h : GAt w gb fb tb vw vp va vs pf g) (k : RowTo w vp w1 v' l') :
    GAt (w1.setCell ⟨gb, 6, none⟩ v') gb fb tb vw v' va vs pf { g with parked := l' } ∧ Stepped w (w1.setCell ⟨gb, 6, none⟩ v') (hG gb fb tb (rowsOf vw vp va vs pf g)) (hG gb fb tb (rowsOf vw v' va vs pf { g with parked := l' })) := by
  have hv : ∀ b, vp.ownBlock = some b → b ∈ blocksOf (rowsOf vw vp va vs pf g) := fun b hb => mem_blocksOf.2 ⟨(vp, g.parked), by simp [rowsOf], hb⟩
  have hgb : gb ∉ vp.ownBlock.toList := fun q => (h.rowne gb (hv gb (by simpa using q))).1 rfl
  have hfb : fb ∉ vp.ownBlock.toList := fun q => (h.rowne fb (hv fb (by simpa using q))).2.1 rfl
  have htb : tb ∉ vp.ownBlock.toList := fun q => (h.rowne tb (hv tb (by simpa using q))).2.2 rfl
  have hset : Only [gb] w1 (w1.setCell ⟨gb, 6, none⟩ v') := (Only.refl _ w1).setCell (.inl (by simp)) _
  have hnf := h.nef
  have hnt := h.net
  have hr1 : Rows w1 (rowsOf vw v' va vs pf { g with parked := l' }) := by
    have := (h.rows.perm (swap2 _ _ _)).turn k
    exact this.perm (swap2 _ _ _)
  refine ⟨⟨?_, ?_, ?_, ?_, h.ne⟩, ?_⟩
  · exact (k.only.blk h.blk hgb).set 6 v'
  · exact (h.flight.only k.only hfb).only hset (by simp; exact fun q => hnf q)
  · exact (h.tries.only k.only htb).only hset (by simp; exact fun q => hnt q)
  · refine hr1.only hset (fun b hb q => ?_)
    have e : b = gb := by simpa using q
    subst e
    obtain ⟨p, hp, hq⟩ := mem_blocksOf.1 hb
    obtain ⟨cur, hcur⟩ := own_type (hr1.own p hp) hq
    exact hcur.other (k.only.blk h.blk hgb) (by decide) rfl
  · refine Stepped.of (S := gb :: vp.ownBlock.toList) ((k.only.mono (fun b hb => List.mem_cons_of_mem _ hb)).setCell (.inl (by simp)) _) (fun b hb => ?_) (fun b hb => ?_)
    · rcases List.mem_cons.1 hb with rfl | hb
      · exact mem_hG.2 (.inl rfl)
      · exact mem_hG.2 (.inr (.inr (.inr (hv b (by simpa using hb)))))
    · rcases mem_hG.1 hb with q | q | q | q
      · exact .inl (mem_hG.2 (.inl q))
      · exact .inl (mem_hG.2 (.inr (.inl q)))
      · exact .inl (mem_hG.2 (.inr (.inr (.inl q))))
      · obtain ⟨p, hp, hq⟩ := mem_blocksOf.1 q
        have hp' : p = (v', l') ∨ p ∈ rowsOf vw vp va vs pf g := by
          simp only [rowsOf, List.mem_cons] at hp ⊢
          rcases hp with hp | hp | hp | hp | hp
          · simp [hp]
          · simp [hp]
          · simp [hp]
          · simp [hp]
          · exact .inr (.inr (.inr (.inr (.inr hp))))
        rcases hp' with rfl | hp'
        · rcases k.blk b hq with q2 | q2
          · exact .inl (mem_hG.2 (.inr (.inr (.inr (hv b q2)))))
          · exact .inr q2
        · exact .inl (mem_hG.2 (.inr (.inr (.inr (mem_blocksOf.2 ⟨p, hp', hq⟩)))))
theorem GAt.setA (h : GAt w gb fb tb vw vp va vs pf g) (k : RowTo w va w1 v' l') :
    GAt (w1.setCell ⟨gb, 7, none⟩ v') gb fb tb vw vp v' vs pf { g with acked := l' } ∧ Stepped w (w1.setCell ⟨gb, 7, none⟩ v') (hG gb fb tb (rowsOf vw vp va vs pf g)) (hG gb fb tb (rowsOf vw vp v' vs pf { g with acked := l' })) := by
  have hv : ∀ b, va.ownBlock = some b → b ∈ blocksOf (rowsOf vw vp va vs pf g) := fun b hb => mem_blocksOf.2 ⟨(va, g.acked), by simp [rowsOf], hb⟩
  have hgb : gb ∉ va.ownBlock.toList := fun q => (h.rowne gb (hv gb (by simpa using q))).1 rfl
  have hfb : fb ∉ va.ownBlock.toList := fun q => (h.rowne fb (hv fb (by simpa using q))).2.1 rfl
  have htb : tb ∉ va.ownBlock.toList := fun q => (h.rowne tb (hv tb (by simpa using q))).2.2 rfl
  have hset : Only [gb] w1 (w1.setCell ⟨gb, 7, none⟩ v') := (Only.refl _ w1).setCell (.inl (by simp)) _
  have hnf := h.nef
  have hnt := h.net
  have hr1 : Rows w1 (rowsOf vw vp v' vs pf { g with acked := l' }) := by
    have := (h.rows.perm (rot3 _ _ _ _)).turn k
    exact this.perm (rot3 _ _ _ _).symm
  refine ⟨⟨?_, ?_, ?_, ?_, h.ne⟩, ?_⟩
  · exact (k.only.blk h.blk hgb).set 7 v'
  · exact (h.flight.only k.only hfb).only hset (by simp; exact fun q => hnf q)
  · exact (h.tries.only k.only htb).only hset (by simp; exact fun q => hnt q)
  · refine hr1.only hset (fun b hb q => ?_)
    have e : b = gb := by simpa using q
    subst e
    obtain ⟨p, hp, hq⟩ := mem_blocksOf.1 hb
    obtain ⟨cur, hcur⟩ := own_type (hr1.own p hp) hq
    exact hcur.other (k.only.blk h.blk hgb) (by decide) rfl
  · refine Stepped.of (S := gb :: va.ownBlock.toList) ((k.only.mono (fun b hb => List.mem_cons_of_mem _ hb)).setCell (.inl (by simp)) _) (fun b hb => ?_) (fun b hb => ?_)
    · rcases List.mem_cons.1 hb with rfl | hb
      · exact mem_hG.2 (.inl rfl)
      · exact mem_hG.2 (.inr (.inr (.inr (hv b (by simpa using hb)))))
    · rcases mem_hG.1 hb with q | q | q | q
      · exact .inl (mem_hG.2 (.inl q))
      · exact .inl (mem_hG.2 (.inr (.inl q)))
      · exact .inl (mem_hG.2 (.inr (.inr (.inl q))))
      · obtain ⟨p, hp, hq⟩ := mem_blocksOf.1 q
        have hp' : p = (v', l') ∨ p ∈ rowsOf vw vp va vs pf g := by
          simp only [rowsOf, List.mem_cons] at hp ⊢
          rcases hp with hp | hp | hp | hp | hp
          · simp [hp]
          · simp [hp]
          · simp [hp]
          · simp [hp]
          · exact .inr (.inr (.inr (.inr (.inr hp))))
        rcases hp' with rfl | hp'
        · rcases k.blk b hq with q2 | q2
          · exact .inl (mem_hG.2 (.inr (.inr (.inr (hv b q2)))))
          · exact .inr q2
        · exact .inl (mem_hG.2 (.inr (.inr (.inr (mem_blocksOf.2 ⟨p, hp', hq⟩)))))
theorem GAt.setS (h : GAt w gb fb tb vw vp va vs pf g) (k : RowTo w vs w1 v' l') :
    GAt (w1.setCell ⟨gb, 8, none⟩ v') gb fb tb vw vp va v' pf { g with skipped := l' } ∧ Stepped w (w1.setCell ⟨gb, 8, none⟩ v') (hG gb fb tb (rowsOf vw vp va vs pf g)) (hG gb fb tb (rowsOf vw vp va v' pf { g with skipped := l' })) := by
  have hv : ∀ b, vs.ownBlock = some b → b ∈ blocksOf (rowsOf vw vp va vs pf g) := fun b hb => mem_blocksOf.2 ⟨(vs, g.skipped), by simp [rowsOf], hb⟩
  have hgb : gb ∉ vs.ownBlock.toList := fun q => (h.rowne gb (hv gb (by simpa using q))).1 rfl
  have hfb : fb ∉ vs.ownBlock.toList := fun q => (h.rowne fb (hv fb (by simpa using q))).2.1 rfl
  have htb : tb ∉ vs.ownBlock.toList := fun q => (h.rowne tb (hv tb (by simpa using q))).2.2 rfl
  have hset : Only [gb] w1 (w1.setCell ⟨gb, 8, none⟩ v') := (Only.refl _ w1).setCell (.inl (by simp)) _
  have hnf := h.nef
  have hnt := h.net
  have hr1 : Rows w1 (rowsOf vw vp va v' pf { g with skipped := l' }) := by
    have := (h.rows.perm (rot4 _ _ _ _ _)).turn k
    exact this.perm (rot4 _ _ _ _ _).symm
  refine ⟨⟨?_, ?_, ?_, ?_, h.ne⟩, ?_⟩
  · exact (k.only.blk h.blk hgb).set 8 v'
  · exact (h.flight.only k.only hfb).only hset (by simp; exact fun q => hnf q)
  · exact (h.tries.only k.only htb).only hset (by simp; exact fun q => hnt q)
  · refine hr1.only hset (fun b hb q => ?_)
    have e : b = gb := by simpa using q
    subst e
    obtain ⟨p, hp, hq⟩ := mem_blocksOf.1 hb
    obtain ⟨cur, hcur⟩ := own_type (hr1.own p hp) hq
    exact hcur.other (k.only.blk h.blk hgb) (by decide) rfl
  · refine Stepped.of (S := gb :: vs.ownBlock.toList) ((k.only.mono (fun b hb => List.mem_cons_of_mem _ hb)).setCell (.inl (by simp)) _) (fun b hb => ?_) (fun b hb => ?_)
    · rcases List.mem_cons.1 hb with rfl | hb
      · exact mem_hG.2 (.inl rfl)
      · exact mem_hG.2 (.inr (.inr (.inr (hv b (by simpa using hb)))))
    · rcases mem_hG.1 hb with q | q | q | q
      · exact .inl (mem_hG.2 (.inl q))
      · exact .inl (mem_hG.2 (.inr (.inl q)))
      · exact .inl (mem_hG.2 (.inr (.inr (.inl q))))
      · obtain ⟨p, hp, hq⟩ := mem_blocksOf.1 q
        have hp' : p = (v', l') ∨ p ∈ rowsOf vw vp va vs pf g := by
          simp only [rowsOf, List.mem_cons] at hp ⊢
          rcases hp with hp | hp | hp | hp | hp
          · simp [hp]
          · simp [hp]
          · simp [hp]
          · simp [hp]
          · exact .inr (.inr (.inr (.inr (.inr hp))))
        rcases hp' with rfl | hp'
        · rcases k.blk b hq with q2 | q2
          · exact .inl (mem_hG.2 (.inr (.inr (.inr (hv b q2)))))
          · exact .inr q2
        · exact .inl (mem_hG.2 (.inr (.inr (.inr (mem_blocksOf.2 ⟨p, hp', hq⟩)))))
/-- The row of what waits is turned, and comes to the same. -/
theorem GAt.touchW (h : GAt w gb fb tb vw vp va vs pf g) (k : RowTo w vw w1 vw g.waiting) : GAt w1 gb fb tb vw vp va vs pf g ∧ Stepped w w1 (hG gb fb tb (rowsOf vw vp va vs pf g)) (hG gb fb tb (rowsOf vw vp va vs pf g)) := by
  have hv : ∀ b, vw.ownBlock = some b → b ∈ blocksOf (rowsOf vw vp va vs pf g) := fun b hb => mem_blocksOf.2 ⟨(vw, g.waiting), by simp [rowsOf], hb⟩
  have hgb : gb ∉ vw.ownBlock.toList := fun q => (h.rowne gb (hv gb (by simpa using q))).1 rfl
  have hfb : fb ∉ vw.ownBlock.toList := fun q => (h.rowne fb (hv fb (by simpa using q))).2.1 rfl
  have htb : tb ∉ vw.ownBlock.toList := fun q => (h.rowne tb (hv tb (by simpa using q))).2.2 rfl
  exact ⟨⟨k.only.blk h.blk hgb, h.flight.only k.only hfb, h.tries.only k.only htb, h.rows.turn k, h.ne⟩, Stepped.of k.only (fun b hb => mem_hG.2 (.inr (.inr (.inr (hv b (by simpa using hb)))))) (fun b hb => .inl hb)⟩
theorem GAt.setN (h : GAt w gb fb tb vw vp va vs pf g) (n : Int) :
    GAt (w.setCell ⟨gb, 3, none⟩ (.int .i64 n)) gb fb tb vw vp va vs pf { g with next := n } ∧ Stepped w (w.setCell ⟨gb, 3, none⟩ (.int .i64 n)) (hG gb fb tb (rowsOf vw vp va vs pf g)) (hG gb fb tb (rowsOf vw vp va vs pf { g with next := n })) := by
  have hset : Only [gb] w (w.setCell ⟨gb, 3, none⟩ (.int .i64 n)) := (Only.refl _ w).setCell (.inl (by simp)) _
  refine ⟨⟨h.blk.set 3 _, h.flight.only hset (by simp; exact fun q => h.nef q), h.tries.only hset (by simp; exact fun q => h.net q), h.rows.only hset (fun b hb q => (h.rowne b hb).1 (by simpa using q)), h.ne⟩, Stepped.of hset (fun b hb => mem_hG.2 (.inl (by simpa using hb))) (fun b hb => .inl hb)⟩
theorem GAt.setT (h : GAt w gb fb tb vw vp va vs pf g) (k : Only [tb] w w1) {T : List (Int × Int)} (hm : MapIs (Value.int .i64) w1 tb (T.map fun p => (p.1, Value.int .i64 p.2))) :
    GAt w1 gb fb tb vw vp va vs pf { g with tries := T } ∧ Stepped w w1 (hG gb fb tb (rowsOf vw vp va vs pf g)) (hG gb fb tb (rowsOf vw vp va vs pf { g with tries := T })) := by
  refine ⟨⟨k.blk h.blk (by simp; exact fun q => h.net q.symm), h.flight.only k (by simp; exact h.ne), hm, h.rows.only k (fun b hb q => (h.rowne b hb).2.2 (by simpa using q)), h.ne⟩, Stepped.of k (fun b hb => mem_hG.2 (.inr (.inr (.inl (by simpa using hb))))) (fun b hb => .inl hb)⟩
theorem sub_flat {α β : Type} (f : α → List β) {L' L : List α} (h : L'.Sublist L) : (L'.flatMap f).Sublist (L.flatMap f) := by
  induction h with
  | slnil => exact List.Sublist.refl _
  | cons a _ ih => rw [List.flatMap_cons]; exact ih.trans (List.sublist_append_right _ _)
  | cons_cons a _ ih => rw [List.flatMap_cons, List.flatMap_cons]; exact List.Sublist.append (List.Sublist.refl _) ih
theorem Rows.sub {L L' : List (Value × List Int)} (h : Rows w L) (hs : L'.Sublist L) : Rows w L' :=
  ⟨fun p hp => h.own p (hs.subset hp), List.Nodup.sublist (by unfold blocksOf; exact sub_flat _ hs) h.nodup⟩
theorem GAt.delF (h : GAt w gb fb tb vw vp va vs pf g) (k : Only [fb] w w1) {who : ByteArray} (hm : MapIs Value.string w1 fb (adel (g.flight.map fun p => (p.1, pf p.1)) who)) :
    GAt w1 gb fb tb vw vp va vs pf { g with flight := adel g.flight who } ∧ Stepped w w1 (hG gb fb tb (rowsOf vw vp va vs pf g)) (hG gb fb tb (rowsOf vw vp va vs pf { g with flight := adel g.flight who })) := by
  have hsub : (rowsOf vw vp va vs pf { g with flight := adel g.flight who }).Sublist (rowsOf vw vp va vs pf g) := by
    unfold rowsOf
    exact ((((((adel_sublist g.flight who).map _).cons_cons _).cons_cons _).cons_cons _).cons_cons _)
  rw [adel_mapk (fun k _ => pf k)] at hm
  refine ⟨⟨k.blk h.blk (by simp; exact fun q => h.nef q.symm), hm, h.tries.only k (by simp; exact fun q => h.ne q.symm), (h.rows.only k (fun b hb q => (h.rowne b hb).2.1 (by simpa using q))).sub hsub, h.ne⟩, Stepped.of k (fun b hb => mem_hG.2 (.inr (.inl (by simpa using hb)))) (fun b hb => ?_)⟩
  rcases mem_hG.1 hb with q | q | q | q
  · exact .inl (mem_hG.2 (.inl q))
  · exact .inl (mem_hG.2 (.inr (.inl q)))
  · exact .inl (mem_hG.2 (.inr (.inr (.inl q))))
  · obtain ⟨p, hp, hq⟩ := mem_blocksOf.1 q
    exact .inl (mem_hG.2 (.inr (.inr (.inr (mem_blocksOf.2 ⟨p, hsub.subset hp, hq⟩)))))
/-- Somebody's flight is another list: the row turned, then the map. -/
theorem GAt.putF (h : GAt w gb fb tb vw vp va vs pf g) {who : ByteArray} (k : RowTo w (fv pf g who) w1 v' l') (k2 : Only [fb] w1 w2) (hm : MapIs Value.string w2 fb (aput (g.flight.map fun p => (p.1, pf p.1)) who v')) :
    GAt w2 gb fb tb vw vp va vs (fun a => if a = who then v' else pf a) { g with flight := aput g.flight who l' } ∧
      Stepped w w2 (hG gb fb tb (rowsOf vw vp va vs pf g)) (hG gb fb tb (rowsOf vw vp va vs (fun a => if a = who then v' else pf a) { g with flight := aput g.flight who l' })) := by
  have hfl : (aput (g.flight.map fun p => (p.1, pf p.1)) who v') = (aput g.flight who l').map fun p => (p.1, (fun a => if a = who then v' else pf a) p.1) :=
    aput_mapk (fun k _ => pf k) (fun k _ => if k = who then v' else pf k) g.flight h.nod who l' v' (by simp) (fun a ha => by simp [ha])
  rw [hfl] at hm
  have hvb : ∀ b, (fv pf g who).ownBlock = some b → b ∈ blocksOf (rowsOf vw vp va vs pf g) := fun b hb => by
    unfold fv GS.is at hb
    cases hx : aget g.flight who with
    | none => rw [hx] at hb; cases hb
    | some l =>
      rw [hx] at hb
      refine mem_blocksOf.2 ⟨(pf who, l), ?_, hb⟩
      simp only [rowsOf, List.mem_cons]
      exact .inr (.inr (.inr (.inr (List.mem_map.2 ⟨(who, l), aget_mem hx, rfl⟩))))
  have hgb : gb ∉ (fv pf g who).ownBlock.toList := fun q => (h.rowne gb (hvb gb (by simpa using q))).1 rfl
  have htb : tb ∉ (fv pf g who).ownBlock.toList := fun q => (h.rowne tb (hvb tb (by simpa using q))).2.2 rfl
  have hr : Rows w1 (rowsOf vw vp va vs (fun a => if a = who then v' else pf a) { g with flight := aput g.flight who l' }) ∧ ∀ p ∈ rowsOf vw vp va vs (fun a => if a = who then v' else pf a) { g with flight := aput g.flight who l' }, p = (v', l') ∨ p ∈ rowsOf vw vp va vs pf g := by
    cases hx : aget g.flight who with
    | some l =>
      obtain ⟨L, p1, p2⟩ := h.front hx
      have hf : fv pf g who = pf who := by unfold fv GS.is; rw [hx]; rfl
      rw [hf] at k
      refine ⟨((h.rows.perm p1).turn k).perm (p2 l' v'), fun p hp => ?_⟩
      rcases List.mem_cons.1 ((p2 l' v').mem_iff.2 hp) with q | q
      · exact .inl q
      · exact .inr (p1.mem_iff.2 (List.mem_cons_of_mem _ q))
    | none =>
      have hf : fv pf g who = .slice none 0 0 := by unfold fv GS.is; rw [hx]; rfl
      rw [hf] at k
      have hnk : who ∉ g.flight.map (·.1) := aget_none.1 hx
      have happ : ∀ (l : List (ByteArray × List Int)), who ∉ l.map (·.1) → (aput l who l').map (fun p => ((if p.1 = who then v' else pf p.1), p.2)) = l.map (fun p => (pf p.1, p.2)) ++ [(v', l')] := by
        intro l
        induction l with
        | nil => intro _; simp [aput]
        | cons p l ih =>
          intro hn
          obtain ⟨a, b⟩ := p
          simp only [List.map_cons, List.mem_cons, not_or] at hn
          have hne : a ≠ who := fun e => hn.1 e.symm
          simp only [aput, if_neg hne, List.map_cons, List.cons_append]
          rw [ih hn.2]
      have he : rowsOf vw vp va vs (fun a => if a = who then v' else pf a) { g with flight := aput g.flight who l' } = rowsOf vw vp va vs pf g ++ [(v', l')] := by
        unfold rowsOf
        simp only [happ g.flight hnk, List.cons_append]
      rw [he]
      have hadd := h.rows.add (k.only.mono (by simp [Value.ownBlock])) k.own (fun b hb => (k.blk b hb).elim (fun q => by cases q) id)
      refine ⟨hadd.perm ?_, fun p hp => ?_⟩
      · exact (List.perm_append_singleton _ _).symm
      · rcases List.mem_append.1 hp with q | q
        · exact .inr q
        · exact .inl (by simpa using q)
  obtain ⟨hr1, hr2⟩ := hr
  have hB1 := k.only.blk h.blk hgb
  have hnf := h.nef
  have hk12 : Only (fb :: (fv pf g who).ownBlock.toList) w w2 := (k.only.mono (fun b hb => List.mem_cons_of_mem _ hb)).trans (k2.mono (fun b hb => by simp at hb; simp [hb]))
  refine ⟨⟨k2.blk hB1 (by simp; exact fun q => hnf q.symm), hm, (h.tries.only k.only htb).only k2 (by simp; exact fun q => h.ne q.symm), hr1.only k2 (fun b hb q => ?_), h.ne⟩, Stepped.of hk12 (fun b hb => ?_) (fun b hb => ?_)⟩
  · have e : b = fb := by simpa using q
    subst e
    obtain ⟨p, hp, hq⟩ := mem_blocksOf.1 hb
    have hfl1 : b ∉ (fv pf g who).ownBlock.toList := fun q => (h.rowne b (hvb b (by simpa using q))).2.1 rfl
    obtain ⟨cur, hcur⟩ := own_type (hr1.own p hp) hq
    exact (h.flight.only k.only hfl1).ne_blk hcur rfl
  · rcases List.mem_cons.1 hb with rfl | hb
    · exact mem_hG.2 (.inr (.inl rfl))
    · exact mem_hG.2 (.inr (.inr (.inr (hvb b (by simpa using hb)))))
  · rcases mem_hG.1 hb with q | q | q | q
    · exact .inl (mem_hG.2 (.inl q))
    · exact .inl (mem_hG.2 (.inr (.inl q)))
    · exact .inl (mem_hG.2 (.inr (.inr (.inl q))))
    · obtain ⟨p, hp, hq⟩ := mem_blocksOf.1 q
      rcases hr2 p hp with rfl | hp'
      · rcases k.blk b hq with q2 | q2
        · exact .inl (mem_hG.2 (.inr (.inr (.inr (hvb b q2)))))
        · exact .inr q2
      · exact .inl (mem_hG.2 (.inr (.inr (.inr (mem_blocksOf.2 ⟨p, hp', hq⟩)))))
end
end Go.Proofs.Ythjgplgfcbhihaa

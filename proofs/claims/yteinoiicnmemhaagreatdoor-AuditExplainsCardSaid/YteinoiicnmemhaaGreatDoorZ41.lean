/- Proved here: contracts of functions and plain laws, part 41 of one proof. Conditions: each theorem names its own. -/
import Derived.Test.YteinoiicnmemhaaGreatDoorZ23
import Derived.Test.YteinoiicnmemhaaGreatDoorZ37
import Derived.Test.YteinoiicnmemhaaGreatDoorZ39
set_option linter.unusedSimpArgs false
set_option linter.unusedVariables false
namespace Go.Proofs.YteinoiicnmemhaaGreatDoor
section
open Go.RowKit Go Go.Sort
/-- A node that has no entries. -/
def NodeN (w : World) (nb : Nat) : Prop := ∃ (db : Nat) (id nodes : Int) (lb sb smb : Nat), Blk w nb 160 (nodeC 1 (-1) (10 + id) db id nodes (.pointer (some ⟨lb, 0, none⟩)) 0 (-1) sb) ∧ NewAt w sb smb
section
variable {w w' : World} {nb : Nat}
theorem NodeN.keep0 (h : NodeN w nb) (k : Only [] w w') : NodeN w' nb := by
  obtain ⟨db, id, nodes, lb, sb, smb, h1, h2⟩ := h
  exact ⟨db, id, nodes, lb, sb, smb, k.blk h1 (by simp), h2.only k (by simp) (by simp)⟩
set_option maxRecDepth 100000 in
theorem nnone_any (h : NodeN w nb) : Calls Tryz.prog 119 #[.pointer (some ⟨nb, 0, none⟩)] w fun e w' => e = .returned (.bool false) ∧ w' = w := by
  obtain ⟨db, id, nodes, lb, sb, smb, h1, h2⟩ := h
  unfold nodeC at h1
  have hc := fun i => h1.cell i
  go_enter Tryz.func119, Tryz.ntmps119
  go_wp2
  go_ret
  exact ⟨rfl, rfl⟩
set_option maxRecDepth 100000 in
theorem nstate_any (h : NodeN w nb) : Calls Tryz.prog 83 #[.pointer (some ⟨nb, 0, none⟩)] w fun e w' => e = .returned (.int .i64 1) ∧ w' = w := by
  have HN := Lib.hid (nnone_any h)
  obtain ⟨db, id, nodes, lb, sb, smb, h1, h2⟩ := h
  unfold nodeC at h1
  have hc := fun i => h1.cell i
  go_enter Tryz.func83, Tryz.ntmps83
  go_wp2_with (go_at_call 119; refine HN.out.mono ?_; rintro e w1 ⟨rfl, rfl⟩)
  go_ret
  exact ⟨rfl, rfl⟩
set_option maxRecDepth 100000 in
theorem ncommit_any (h : NodeN w nb) : Calls Tryz.prog 47 #[.pointer (some ⟨nb, 0, none⟩)] w fun e w' => e = .returned (.int .i64 0) ∧ w' = w := by
  obtain ⟨db, id, nodes, lb, sb, smb, h1, h2⟩ := h
  unfold nodeC at h1
  have hc := fun i => h1.cell i
  go_enter Tryz.func47, Tryz.ntmps47
  go_wp2
  go_ret
  exact ⟨rfl, rfl⟩
set_option maxRecDepth 100000 in
theorem neps_nil (w : World) : Calls Tryz.prog 148 #[.slice none 0 0] w fun e w' => e = .returned (.slice none 0 0) ∧ w' = w := by
  go_enter Tryz.func148, Tryz.ntmps148
  go_wp2_with fail
  go_loopw [3, 8] (fun ov iv wr => ov = .slice none 0 0 ∧ iv = .int .i64 0 ∧ wr = w) (fun _ _ _ => 0)
  case atStart => exact ⟨rfl, rfl, rfl⟩
  case round =>
    obtain ⟨rfl, rfl, hwr⟩ := hrel
    have hwr' := hwr.symm
    subst hwr'
    go_wp2
    go_ret
    exact ⟨rfl, rfl⟩
set_option maxRecDepth 100000 in
theorem nepochs_any (h : NodeN w nb) : Calls Tryz.prog 123 #[.pointer (some ⟨nb, 0, none⟩)] w fun e w' => e = .returned (.slice none 0 0) ∧ w' = w := by
  have HN := Lib.hid (neps_nil w)
  obtain ⟨db, id, nodes, lb, sb, smb, h1, h2⟩ := h
  unfold nodeC at h1
  have hc := fun i => h1.cell i
  go_enter Tryz.func123, Tryz.ntmps123
  go_wp2_with (go_at_call 148; refine HN.out.mono ?_; rintro e w1 ⟨rfl, rfl⟩)
  go_ret
  exact ⟨rfl, rfl⟩
set_option maxRecDepth 100000 in
theorem nlen_any (h : NodeN w nb) : Calls Tryz.prog 87 #[.pointer (some ⟨nb, 0, none⟩)] w fun e w' => e = .returned (.int .i64 0) ∧ w' = w := by
  have HN := Lib.hid (nepochs_any h)
  go_enter Tryz.func87, Tryz.ntmps87
  go_wp2_with (go_at_call 123; refine HN.out.mono ?_; rintro e w1 ⟨rfl, rfl⟩)
  go_ret
  exact ⟨rfl, rfl⟩
set_option maxRecDepth 100000 in
theorem nentries_any (h : NodeN w nb) (n : Int) : Calls Tryz.prog 46 #[.pointer (some ⟨nb, 0, none⟩), .int .i64 0, .int .i64 n] w fun e w' => e = .returned (.slice none 0 0) ∧ w' = w := by
  have HN := Lib.hid (nlen_any h)
  go_enter Tryz.func46, Tryz.ntmps46
  go_wp2_with fail
  go_loopw [7, 8] (fun ov iv wr => ov = .slice none 0 0 ∧ iv = .int .i64 0 ∧ wr = w) (fun _ _ _ => 0)
  case atStart => exact ⟨rfl, rfl, rfl⟩
  case round =>
    obtain ⟨rfl, rfl, hwr⟩ := hrel
    have hwr' := hwr.symm
    subst hwr'
    go_wp2_with (go_at_call 87; refine HN.out.mono ?_; rintro e w1 ⟨rfl, rfl⟩)
    go_ret
    exact ⟨rfl, rfl⟩
/-- The model is copied. -/
theorem nmodel_any (h : NodeN w nb) : Calls Tryz.prog 45 #[.pointer (some ⟨nb, 0, none⟩)] w fun e w' => ∃ sb mb av M, e = .returned (.pointer (some ⟨sb, 0, none⟩)) ∧ StAt w' M sb mb av (fun _ => .slice none 0 0) MS.new ∧ Only [] w w' := by
  obtain ⟨db, id, nodes, lb, sb, smb, h1, h2⟩ := h
  have HC := Lib.hid (copy_any (h2.st (fun _ => .slice none 0 0)) (by simp [MS.new]))
  unfold nodeC at h1
  have hc := fun i => h1.cell i
  clear h2
  go_enter Tryz.func45, Tryz.ntmps45
  go_wp2_with (go_at_call 86; refine HC.out.mono ?_; rintro e w1 ⟨sc, mc, avc, rfl, hs, hM, k1⟩)
  go_ret
  exact ⟨sc, mc, avc, _, rfl, hs, k1⟩
end
end
section
open Go.RowKit Go Go.Sort
/-- An entry of a log: a command with its epoch. -/
structure EntV where
  ep : Int
  x : CmdV
def EntV.cells (e : EntV) : List Value := [.int .i64 e.ep, .int .i64 e.x.c.kind, .int .i64 e.x.c.time, .string e.x.c.stream, .int .i64 e.x.c.expected, e.x.ev, .int .i64 e.x.c.mt.maxCount, .int .i64 e.x.c.mt.maxAge, .int .i64 e.x.c.mt.before]
/-- What entries make. -/
def runE (s : MS) (l : List EntV) : MS := l.foldl (fun s e => (s.do e.x.c).2) s
theorem runE_take (s : MS) (l : List EntV) {k : Nat} (h : k < l.length) : runE s (l.take (k + 1)) = ((runE s (l.take k)).do l[k].x.c).2 := by
  unfold runE
  rw [List.take_succ_eq_append_getElem h, List.foldl_append]
  rfl
theorem few_runE : ∀ (l : List EntV) (s : MS) (N : Nat), s.Few N → (runE s l).Few (N + l.length)
  | [], s, N, h => h
  | e :: l, s, N, h => by
    have := few_runE l (s.do e.x.c).2 (N + 1) (few_do h e.x.c)
    show (runE (s.do e.x.c).2 l).Few _
    rw [List.length_cons, Nat.add_comm l.length 1, ← Nat.add_assoc]
    exact this
section
variable {w w' : World} {na nb : Nat}
set_option maxRecDepth 100000 in
theorem nagree_any (ha : NodeN w na) (hb : NodeN w nb) : Calls Tryz.prog 44 #[.pointer (some ⟨na, 0, none⟩), .pointer (some ⟨nb, 0, none⟩)] w fun e w' => e = .returned (.bool true) ∧ w' = w := by
  have S1 := Lib.hid (nstate_any ha)
  have C1 := Lib.hid (ncommit_any ha)
  have C2 := Lib.hid (ncommit_any hb)
  have E1 := Lib.hid (nentries_any ha 0)
  have E2 := Lib.hid (nentries_any hb 0)
  go_enter Tryz.func44, Tryz.ntmps44
  go_wp2_with fail
  refine S1.out.mono ?_
  rintro e w1 ⟨rfl, rfl⟩
  go_wp2_with fail
  refine C1.out.mono ?_
  rintro e w1 ⟨rfl, rfl⟩
  go_wp2_with fail
  refine C2.out.mono ?_
  rintro e w1 ⟨rfl, rfl⟩
  go_wp2_with fail
  refine E1.out.mono ?_
  rintro e w1 ⟨rfl, rfl⟩
  go_wp2_with fail
  refine E2.out.mono ?_
  rintro e w1 ⟨rfl, rfl⟩
  rename World => wz
  go_wp2_with fail
  go_loopw [39] (fun iv wr => iv = .int .i64 0 ∧ wr = wz) (fun _ _ => 0)
  case atStart => exact ⟨rfl, rfl⟩
  case round =>
    obtain ⟨rfl, hwr⟩ := hrel
    have hwr' := hwr.symm
    subst hwr'
    go_wp2
    go_ret
    exact ⟨rfl, rfl⟩
variable {M : List Nat} {sb mb N : Nat} {av v : Value} {pf : ByteArray → Value} {t : MS} {l : List EntV}
set_option maxRecDepth 100000 in
set_option maxHeartbeats 2000000 in
theorem judge_any (h : StAt w M sb mb av pf t) (ht : t.Ok N) (hf : t.Few N) (hN : N ≤ 100000) (he : Slc w 9 v l.length (l.flatMap EntV.cells)) (hl : l.length ≤ 1000)
    (hc : ∀ e ∈ l, CmdOk e.x.c ∧ Slc w 4 e.x.ev e.x.c.events.length (e.x.c.events.flatMap EventR.cells) ∧ ∀ g, e.x.ev.ownBlock = some g → g < w.heap.size ∨ e.x.c.events = []) :
    Calls Tryz.prog 11 #[.pointer (some ⟨sb, 0, none⟩), v] w fun e w' => e = .returned (.bool ((runE MS.new l).sameQ t)) ∧ Only [] w w' := by
  obtain ⟨A, cap, rfl, hnc, hcm, hel⟩ := he.openE EntV.cells (fun _ => rfl)
  unfold maxLen at hcm
  have HC := Lib.hid hc
  have Hel := Lib.hid hel
  have HT := Lib.hid h
  have HN0 := Lib.hid (has_newS w w (Only.refl _ _) [] (by simp))
  clear he hc hel h
  go_enter Tryz.func11, Tryz.ntmps11
  go_wp2_with fail
  refine HN0.out.mono ?_
  rintro e w1 ⟨rfl, hs1, k1⟩
  obtain ⟨s1, hs⟩ : ∃ s1, w.heap.size + 1 = s1 := ⟨_, rfl⟩
  obtain ⟨m1, hm⟩ : ∃ m1, w.heap.size = m1 := ⟨_, rfl⟩
  have hs2 : HasS w w1 [] [] s1 m1 MS.new 0 := by rw [← hs, ← hm]; exact hs1
  rw [hs]
  have HS0 := Lib.hid hs2
  clear hs1 hs2 hs hm HN0
  go_wp2_with fail
  go_loopw [11] (fun iv wr => ∃ k : Nat, k ≤ l.length ∧ iv = .int .i64 k ∧ Hid (HasS w wr [] [] s1 m1 (runE MS.new (l.take k)) k)) (fun iv _ => l.length - (intOf iv).toNat)
  case atStart => exact ⟨0, Nat.zero_le _, rfl, HS0⟩
  case round =>
    obtain ⟨k, hk, rfl, hS⟩ := hrel
    have hO := hS.out.only
    by_cases hlt : k < l.length
    · obtain ⟨b, off, rfl, hbb, hcc⟩ := Hel.out k hlt
      have hnx := runE_take MS.new l hlt
      obtain ⟨x, hx⟩ : ∃ x, l[k] = x := ⟨_, rfl⟩
      have hxm : x ∈ l := by rw [← hx]; exact List.getElem_mem hlt
      rw [hx] at hcc hnx
      obtain ⟨c1, c2, c3⟩ := HC.out x hxm
      obtain ⟨Ax, capx, hxv, hx1, hx2, _⟩ := c2.openE EventR.cells (fun _ => rfl)
      have hcl : ∀ i, wr.cell? ⟨b, off + k * 9 + i, none⟩ = w.cell? ⟨b, off + k * 9 + i, none⟩ := fun i => hO.cell hbb (by simp)
      have d0 : wr.cell? ⟨b, off + k * 9, none⟩ = some (.int .i64 x.ep) := (hcl 0).trans (hcc 0 (by omega))
      have d1 : wr.cell? ⟨b, off + k * 9 + 1, none⟩ = some (.int .i64 x.x.c.kind) := (hcl 1).trans (hcc 1 (by omega))
      have d2 : wr.cell? ⟨b, off + k * 9 + 2, none⟩ = some (.int .i64 x.x.c.time) := (hcl 2).trans (hcc 2 (by omega))
      have d3 : wr.cell? ⟨b, off + k * 9 + 3, none⟩ = some (.string x.x.c.stream) := (hcl 3).trans (hcc 3 (by omega))
      have d4 : wr.cell? ⟨b, off + k * 9 + 4, none⟩ = some (.int .i64 x.x.c.expected) := (hcl 4).trans (hcc 4 (by omega))
      have d5 : wr.cell? ⟨b, off + k * 9 + 5, none⟩ = some (.slice Ax x.x.c.events.length capx) := (hcl 5).trans ((hcc 5 (by omega)).trans (by rw [← hxv]; rfl))
      have d6 : wr.cell? ⟨b, off + k * 9 + 6, none⟩ = some (.int .i64 x.x.c.mt.maxCount) := (hcl 6).trans (hcc 6 (by omega))
      have d7 : wr.cell? ⟨b, off + k * 9 + 7, none⟩ = some (.int .i64 x.x.c.mt.maxAge) := (hcl 7).trans (hcc 7 (by omega))
      have d8 : wr.cell? ⟨b, off + k * 9 + 8, none⟩ = some (.int .i64 x.x.c.mt.before) := (hcl 8).trans (hcc 8 (by omega))
      have e9 := IntWalk.i64_in ((k : Int) + 1) ⟨by omega, by omega⟩
      have hsf := stF
      have HDo := Lib.hid (fun (o : Obj) => show Calls Tryz.prog 9 #[.pointer (some ⟨s1, 0, none⟩), .agg #[.int .i64 x.x.c.kind, .int .i64 x.x.c.time, .string x.x.c.stream, .int .i64 x.x.c.expected, .slice Ax x.x.c.events.length capx, .int .i64 x.x.c.mt.maxCount, .int .i64 x.x.c.mt.maxAge, .int .i64 x.x.c.mt.before]] (wr.alloc o) fun e w' => (∃ v, e = .returned v) ∧ HasS w w' [] [] s1 m1 ((runE MS.new (l.take k)).do x.x.c).2 (k + 1) from
        (has_do (c := x.x.c) (hS.out.keep ((Only.refl _ _).alloc o)) (by omega) c1 ⟨by rw [← hxv]; exact c2.only0 (hO.trans ((Only.refl _ _).alloc o)), fun g hg => by rw [← hxv] at hg; exact (c3 g hg).imp .inl (fun q => by rw [q]; rfl)⟩).mono fun e w' ⟨q1, q2, q3⟩ => ⟨⟨_, q1⟩, q2⟩)
      rw [← hnx] at HDo
      clear hcl hcc hnx hx c1 c2 c3 hS
      go_wp2_with fail
      refine (HDo.out _).mono ?_
      rintro e w3 ⟨⟨v3, rfl⟩, hs3⟩
      have HS3 := Lib.hid hs3
      clear hs3 HDo d0 d1 d2 d3 d4 d5 d6 d7 d8
      go_wp2
      exact ⟨⟨k + 1, hlt, by simp, HS3⟩, by simp [intOf]; omega⟩
    · have hkl : l.take k = l := List.take_of_length_le (by omega)
      have hS2 := hS.out
      rw [hkl] at hS2
      have hff : (runE MS.new l).Few l.length := by
        have := few_runE l MS.new 0 few_new
        rwa [Nat.zero_add] at this
      have hkk : l.length = k := by omega
      rw [hkk] at hff
      obtain ⟨M2, av2, pf2, q1, q2, q3, q4⟩ := hS2.st
      have HQ := Lib.hid (sameQ_any q1 (HT.out.only0 hO) hS2.ok hff (by omega) ht hf hN)
      clear hS2 hS q1 q2 q3 q4 hff hkl
      go_wp2_with fail
      refine HQ.out.mono ?_
      rintro e w3 ⟨rfl, k3⟩
      go_wp2
      go_ret
      exact ⟨rfl, hO.trans k3⟩
end
end
end Go.Proofs.YteinoiicnmemhaaGreatDoor

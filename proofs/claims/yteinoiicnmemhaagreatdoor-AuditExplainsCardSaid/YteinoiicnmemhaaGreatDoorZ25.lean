/- Proved here: contracts of functions and plain laws, part 25 of one proof. Conditions: each theorem names its own. -/
import Derived.Test.YteinoiicnmemhaaGreatDoorZ8
import Derived.Test.YteinoiicnmemhaaGreatDoorZ14
import Derived.Test.YteinoiicnmemhaaGreatDoorZ21
import Derived.Test.YteinoiicnmemhaaGreatDoorZ22
import Derived.Test.YteinoiicnmemhaaGreatDoorZ24
import Derived.Lib.QuietBelow
import Derived.Deep.DeepCutAuto
set_option linter.unusedSimpArgs false
set_option linter.unusedVariables false
namespace Go.Proofs.YteinoiicnmemhaaGreatDoor
section
open Go Go.RowKit Go.Sort
theorem HasD.rbH {a w : World} {H : List Nat} {rb : Nat} {r : RS} (h : HasD a w H rb r) : rb ∈ H := by
  obtain ⟨⟨vl, vs, hA, rfl⟩, -, -⟩ := h
  simp [hD]
theorem HasD.nums {a w : World} {H : List Nat} {rb : Nat} {r : RS} (h : HasD a w H rb r) : w.cell? ⟨rb, 2, none⟩ = some (.int .i64 r.now) ∧ w.cell? ⟨rb, 3, none⟩ = some (.int .i64 r.done) ∧ w.frozen? ⟨rb, 2, none⟩ = false ∧ w.frozen? ⟨rb, 3, none⟩ = false := by
  obtain ⟨⟨vl, vs, hA, rfl⟩, -, -⟩ := h
  exact ⟨hA.blk.cell 2, hA.blk.cell 3, hA.blk.free 2, hA.blk.free 3⟩
theorem HasD.ls {a w : World} {H : List Nat} {rb : Nat} {r : RS} (h : HasD a w H rb r) : ∃ A c, w.cell? ⟨rb, 0, none⟩ = some (.slice A r.l.length c) ∧ r.l.length ≤ c ∧ c ≤ 2 ^ 63 - 1 := by
  obtain ⟨⟨vl, vs, hA, rfl⟩, -, -⟩ := h
  obtain ⟨A, c, e, h1, h2⟩ := own_form hA.l
  subst e
  exact ⟨A, c, hA.blk.cell 0, h1, by unfold maxLen at h2; exact h2⟩
section
variable {a w : World} {H : List Nat} {rb : Nat} {r : RS}
set_option maxRecDepth 100000 in
set_option maxHeartbeats 4000000 in
theorem ddo_bad (h : HasD a w H rb r) (c : Cmd) (v : Value) (he : Slc w 4 v c.events.length (c.events.flatMap EventR.cells)) (ho : CmdOk c) (hk : c.check ≠ 0) :
    Calls Tryz.prog 10 #[.pointer (some ⟨rb, 0, none⟩), c.val v] w fun e w' => e = .returned (Ans.val ⟨c.check, 0, 0, false⟩) ∧ DTo a w H rb r w' := by
  obtain ⟨A1, cap1, hev, hn3, hn4, hes⟩ := he.openE EventR.cells (fun _ => rfl)
  unfold maxLen at hn4
  subst hev
  have HCk := Lib.hid (fun (W : World) (hw : Only [] w W) => show Calls Tryz.prog 25 #[.agg #[.int .i64 c.kind, .int .i64 c.time, .string c.stream, .int .i64 c.expected, .slice A1 c.events.length cap1, .int .i64 c.mt.maxCount, .int .i64 c.mt.maxAge, .int .i64 c.mt.before]] W fun e w' => e = .returned (.int .i64 c.check) ∧ Only [] W w' from r7check_any c _ W (he.only0 hw) ho)
  have h2 : ∀ o1 o2, Only [] w ((w.alloc o1).alloc o2) := fun o1 o2 => ((Only.refl [] w).alloc o1).alloc o2
  have kC : ∀ cs t o2, Blk ((w.alloc (.cells cs t)).alloc o2) w.heap.size t cs := fun cs t o2 => ((Only.refl [] _).alloc o2).blk (Blk.new w t cs) (by simp)
  have kA : ∀ cs t o1, Blk ((w.alloc o1).alloc (.cells cs t)) (w.heap.size + 1) t cs := fun cs t o1 => by
    have := Blk.new (w.alloc o1) t cs
    simpa using this
  rw [show c.val (.slice A1 c.events.length cap1) = .agg #[.int .i64 c.kind, .int .i64 c.time, .string c.stream, .int .i64 c.expected, .slice A1 c.events.length cap1, .int .i64 c.mt.maxCount, .int .i64 c.mt.maxAge, .int .i64 c.mt.before] from rfl]
  have HT := Lib.hid (fun (W : World) (k : Only [] w W) => (show DTo a w H rb r W from ⟨H, h.keep0 k, Stepped.first0 k (Stepped.refl _ _)⟩))
  have hkb : ((c.check : Int) != 0) = true := by simpa using hk
  clear hk
  go_enter Tryz.func10, Tryz.ntmps10
  go_wp2_with fail
  refine (HCk.out _ (h2 _ _)).mono ?_
  rintro e1 w1 ⟨rfl, k1⟩
  have bA1 := k1.blk (kA _ _ _) (by simp)
  have hA1f := fun i => bA1.free i
  have hA1c := fun i => bA1.cell i
  go_wp2
  have hO1 : Only [] w w1 := (h2 _ _).trans k1
  have hD1 := h.keep0 hO1
  have hSt : Stepped w w1 H H := Stepped.first0 hO1 (Stepped.refl _ _)
  have hgH : w.heap.size + 1 ∉ H := fun q => by have := h.lt _ q; omega
  have haz : a.heap.size ≤ w.heap.size + 1 := by have := h.only.size; omega
  have hS4 := (((bA1.set 0 (.int .i64 c.check)).set 1 (.int .i64 0)).set 2 (.int .i64 0)).set 3 (.bool false)
  have hge : w.heap.size ≤ w.heap.size + 1 := by omega
  have hD4 := (((hD1.setB (k := 0) (u := .int .i64 c.check) hgH haz).setB (k := 1) (u := .int .i64 0) hgH haz).setB (k := 2) (u := .int .i64 0) hgH haz).setB (k := 3) (u := .bool false) hgH haz
  have hSt4 := (((hSt.setB (k := 0) (u := .int .i64 c.check) hge).setB (k := 1) (u := .int .i64 0) hge).setB (k := 2) (u := .int .i64 0) hge).setB (k := 3) (u := .bool false) hge
  have hc4 := hS4.cell
  refine bodyPost_ret (v := .agg #[.int .i64 c.check, .int .i64 0, .int .i64 0, .bool false]) (by simp [results, Tryz.results10, go_sem, hc4]) rfl ⟨?ans, _, hD4, hSt4⟩
  case ans => rfl
set_option maxRecDepth 100000 in
set_option maxHeartbeats 4000000 in
theorem ddo_mark (h : HasD a w H rb r) (hf : r.Fine) (hdb : 0 ≤ r.done ∧ r.done ≤ 1000000000) (c : Cmd) (v : Value) (he : Slc w 4 v c.events.length (c.events.flatMap EventR.cells)) (ho : CmdOk c) (hk : c.check = 0) (h4 : 4 ≤ c.kind) :
    Calls Tryz.prog 10 #[.pointer (some ⟨rb, 0, none⟩), c.val v] w fun e w' => e = .returned (Ans.val ⟨0, 0, r.l.length, false⟩) ∧ DTo a w H rb (r.tick c.time) w' := by
  obtain ⟨A1, cap1, hev, hn3, hn4, hes⟩ := he.openE EventR.cells (fun _ => rfl)
  unfold maxLen at hn4
  subst hev
  have HCk := Lib.hid (fun (W : World) (hw : Only [] w W) => show Calls Tryz.prog 25 #[.agg #[.int .i64 c.kind, .int .i64 c.time, .string c.stream, .int .i64 c.expected, .slice A1 c.events.length cap1, .int .i64 c.mt.maxCount, .int .i64 c.mt.maxAge, .int .i64 c.mt.before]] W fun e w' => e = .returned (.int .i64 c.check) ∧ Only [] W w' from r7check_any c _ W (he.only0 hw) ho)
  have h2 : ∀ o1 o2, Only [] w ((w.alloc o1).alloc o2) := fun o1 o2 => ((Only.refl [] w).alloc o1).alloc o2
  have kC : ∀ cs t o2, Blk ((w.alloc (.cells cs t)).alloc o2) w.heap.size t cs := fun cs t o2 => ((Only.refl [] _).alloc o2).blk (Blk.new w t cs) (by simp)
  have kA : ∀ cs t o1, Blk ((w.alloc o1).alloc (.cells cs t)) (w.heap.size + 1) t cs := fun cs t o1 => by
    have := Blk.new (w.alloc o1) t cs
    simpa using this
  rw [show c.val (.slice A1 c.events.length cap1) = .agg #[.int .i64 c.kind, .int .i64 c.time, .string c.stream, .int .i64 c.expected, .slice A1 c.events.length cap1, .int .i64 c.mt.maxCount, .int .i64 c.mt.maxAge, .int .i64 c.mt.before] from rfl]
  rw [hk] at HCk
  have hHl := h.lt
  go_enter Tryz.func10, Tryz.ntmps10
  go_wp2_with fail
  refine (HCk.out _ (h2 _ _)).mono ?_
  rintro e1 w1 ⟨rfl, k1⟩
  go_wp2_with fail
  have hO1 : Only [] w w1 := (h2 _ _).trans k1
  have bC1 := k1.blk (kC _ _ _) (by simp)
  have bA1 := k1.blk (kA _ _ _) (by simp)
  have hD1 := h.keep0 hO1
  obtain ⟨M2, M3, X2, X3⟩ := hD1.nums
  have hrbH := h.rbH
  have hrbl := h.lt rb hrbH
  obtain ⟨t, ht⟩ : ∃ t, t = max r.now c.time := ⟨_, rfl⟩
  have hmx : (if r.now < c.time then c.time else r.now) = t := by rw [ht]; split <;> omega
  have hmy : (if c.time > r.now then c.time else r.now) = t := hmx
  have HTt := Lib.hid ht
  clear ht
  have C1 := Within.cell (S := []) (bC1.cell 1) (by simp)
  have D2 := Within.cell (S := []) M2 (by simp)
  have D3 := Within.cell (S := []) M3 (by simp)
  refine wp_region_in [] [0, 1, 2, 3, 4, 5, 6, 7, 8, 9] [] [10] (by kernel_rfl) (by kernel_rfl) (by intro c d u a w h; cases d <;> exact h) ?_
  show wpQuiet _ _ _ _ [_, _, _, _, _, _, _, _, _, _] _
  repeat (go_big_quiet_step (fail))
  refine wpQuiet_nil ?_
  have N2 := M2
  have N3 := M3
  have Y2 := X2
  have Y3 := X3
  clear C1 D2 D3
  show wpList _ _ _ [_] _ _
  have hne1 : w.heap.size ≠ rb := by omega
  have hne2 : w.heap.size + 1 ≠ rb := by omega
  have hdn := IntWalk.i64_in (r.done + 1) ⟨by omega, by omega⟩
  go_upto_region 6 with (fail)
  have hSt1 : Stepped w w1 H H := Stepped.first0 hO1 (Stepped.refl _ _)
  have q2 := hD1.setNow (max r.now c.time)
  have q3 := q2.1.setDone (r.done + 1)
  have hD5 := q3.1.keep0 (Only.refl [] _).drew
  have hS5 := (q2.2.trans q3.2).then0 (Only.refl [] _).drew
  have hgC : w.heap.size ∉ H := fun q => by have := hHl _ q; omega
  have hgA : w.heap.size + 1 ∉ H := fun q => by have := hHl _ q; omega
  have haz : a.heap.size ≤ w.heap.size + 1 := by have := h.only.size; omega
  have bC5 := (hS5.keepB bC1 hgC).1
  have bA5 := (hS5.keepB bA1 hgA).1
  have hSt5 := hSt1.trans hS5
  obtain ⟨W5, hW5⟩ : ∃ W, W = ((w1.setCell ⟨rb, 2, none⟩ (.int .i64 (max r.now c.time))).setCell ⟨rb, 3, none⟩ (.int .i64 (r.done + 1))).drew := ⟨_, rfl⟩
  rw [← hW5] at hD5 hS5 bC5 bA5 hSt5 ⊢
  rw [show ({ ({ r with now := max r.now c.time } : RS) with done := r.done + 1 } : RS) = r.tick c.time from rfl] at hD5
  clear hW5 q2 q3 hS5 hSt1 M2 M3 X2 X3 N2 N3 Y2 Y3 bC1 bA1 hmx hmy HTt hD1 k1
  obtain ⟨Al, cl, hls, hl1, hl2⟩ := hD5.ls
  have hl1' : r.l.length ≤ cl := hl1
  have hls' : W5.cell? ⟨rb, 0, none⟩ = some (.slice Al r.l.length cl) := hls
  have hC5 := fun i => bC5.cell i
  have hA5c := fun i => bA5.cell i
  have hA5f := fun i => bA5.free i
  clear hls hl1
  go_wp2
  have hS4 := (((bA5.set 0 (.int .i64 0)).set 1 (.int .i64 0)).set 2 (.int .i64 r.l.length)).set 3 (.bool false)
  have hge : w.heap.size ≤ w.heap.size + 1 := by omega
  have hD4 := (((hD5.setB (k := 0) (u := .int .i64 0) hgA haz).setB (k := 1) (u := .int .i64 0) hgA haz).setB (k := 2) (u := .int .i64 r.l.length) hgA haz).setB (k := 3) (u := .bool false) hgA haz
  have hSt4 := (((hSt5.setB (k := 0) (u := .int .i64 0) hge).setB (k := 1) (u := .int .i64 0) hge).setB (k := 2) (u := .int .i64 r.l.length) hge).setB (k := 3) (u := .bool false) hge
  have hc4 := hS4.cell
  refine bodyPost_ret (v := .agg #[.int .i64 0, .int .i64 0, .int .i64 r.l.length, .bool false]) (by simp [results, Tryz.results10, go_sem, hc4]) rfl ⟨?ans, _, hD4, hSt4⟩
  case ans => rfl
set_option maxRecDepth 100000 in
set_option maxHeartbeats 4000000 in
theorem ddo_gone (h : HasD a w H rb r) (hf : r.Fine) (hs : r.s.length + 1 ≤ 1000000) (hdb : 0 ≤ r.done ∧ r.done ≤ 1000000000) (c : Cmd) (v : Value) (he : Slc w 4 v c.events.length (c.events.flatMap EventR.cells)) (ho : CmdOk c) (hk : c.check = 0) (h4 : c.kind < 4) (hd : (r.get c.stream).deleted = true) :
    Calls Tryz.prog 10 #[.pointer (some ⟨rb, 0, none⟩), c.val v] w fun e w' => e = .returned (Ans.val ⟨23, 0, 0, false⟩) ∧ DTo a w H rb ((r.tick c.time).keep c.stream) w' := by
  have hft := hf.tick (check_kind hk).2.2
  obtain ⟨A1, cap1, hev, hn3, hn4, hes⟩ := he.openE EventR.cells (fun _ => rfl)
  unfold maxLen at hn4
  subst hev
  have HCk := Lib.hid (fun (W : World) (hw : Only [] w W) => show Calls Tryz.prog 25 #[.agg #[.int .i64 c.kind, .int .i64 c.time, .string c.stream, .int .i64 c.expected, .slice A1 c.events.length cap1, .int .i64 c.mt.maxCount, .int .i64 c.mt.maxAge, .int .i64 c.mt.before]] W fun e w' => e = .returned (.int .i64 c.check) ∧ Only [] W w' from r7check_any c _ W (he.only0 hw) ho)
  have h2 : ∀ o1 o2, Only [] w ((w.alloc o1).alloc o2) := fun o1 o2 => ((Only.refl [] w).alloc o1).alloc o2
  have kC : ∀ cs t o2, Blk ((w.alloc (.cells cs t)).alloc o2) w.heap.size t cs := fun cs t o2 => ((Only.refl [] _).alloc o2).blk (Blk.new w t cs) (by simp)
  have kA : ∀ cs t o1, Blk ((w.alloc o1).alloc (.cells cs t)) (w.heap.size + 1) t cs := fun cs t o1 => by
    have := Blk.new (w.alloc o1) t cs
    simpa using this
  rw [show c.val (.slice A1 c.events.length cap1) = .agg #[.int .i64 c.kind, .int .i64 c.time, .string c.stream, .int .i64 c.expected, .slice A1 c.events.length cap1, .int .i64 c.mt.maxCount, .int .i64 c.mt.maxAge, .int .i64 c.mt.before] from rfl]
  rw [hk] at HCk
  have hHl := h.lt
  have hfd3 := fldD3
  go_enter Tryz.func10, Tryz.ntmps10
  go_wp2_with fail
  refine (HCk.out _ (h2 _ _)).mono ?_
  rintro e1 w1 ⟨rfl, k1⟩
  go_wp2_with fail
  have hO1 : Only [] w w1 := (h2 _ _).trans k1
  have bC1 := k1.blk (kC _ _ _) (by simp)
  have bA1 := k1.blk (kA _ _ _) (by simp)
  have hD1 := h.keep0 hO1
  obtain ⟨M2, M3, X2, X3⟩ := hD1.nums
  have hrbH := h.rbH
  have hrbl := h.lt rb hrbH
  obtain ⟨t, ht⟩ : ∃ t, t = max r.now c.time := ⟨_, rfl⟩
  have hmx : (if r.now < c.time then c.time else r.now) = t := by rw [ht]; split <;> omega
  have hmy : (if c.time > r.now then c.time else r.now) = t := hmx
  have HTt := Lib.hid ht
  clear ht
  have C1 := Within.cell (S := []) (bC1.cell 1) (by simp)
  have D2 := Within.cell (S := []) M2 (by simp)
  have D3 := Within.cell (S := []) M3 (by simp)
  refine wp_region_in [] [0, 1, 2, 3, 4, 5, 6, 7, 8, 9] [] [10] (by kernel_rfl) (by kernel_rfl) (by intro c d u a w h; cases d <;> exact h) ?_
  show wpQuiet _ _ _ _ [_, _, _, _, _, _, _, _, _, _] _
  repeat (go_big_quiet_step (fail))
  refine wpQuiet_nil ?_
  have N2 := M2
  have N3 := M3
  have Y2 := X2
  have Y3 := X3
  clear C1 D2 D3
  show wpList _ _ _ [_] _ _
  have hne1 : w.heap.size ≠ rb := by omega
  have hne2 : w.heap.size + 1 ≠ rb := by omega
  have hdn := IntWalk.i64_in (r.done + 1) ⟨by omega, by omega⟩
  go_upto_region 6 with (fail)
  have hSt1 : Stepped w w1 H H := Stepped.first0 hO1 (Stepped.refl _ _)
  have q2 := hD1.setNow (max r.now c.time)
  have q3 := q2.1.setDone (r.done + 1)
  have hD5 := q3.1.keep0 (Only.refl [] _).drew
  have hS5 := (q2.2.trans q3.2).then0 (Only.refl [] _).drew
  have hgC : w.heap.size ∉ H := fun q => by have := hHl _ q; omega
  have hgA : w.heap.size + 1 ∉ H := fun q => by have := hHl _ q; omega
  have haz : a.heap.size ≤ w.heap.size + 1 := by have := h.only.size; omega
  have bC5 := (hS5.keepB bC1 hgC).1
  have bA5 := (hS5.keepB bA1 hgA).1
  have hSt5 := hSt1.trans hS5
  obtain ⟨W5, hW5⟩ : ∃ W, W = ((w1.setCell ⟨rb, 2, none⟩ (.int .i64 (max r.now c.time))).setCell ⟨rb, 3, none⟩ (.int .i64 (r.done + 1))).drew := ⟨_, rfl⟩
  rw [← hW5] at hD5 hS5 bC5 bA5 hSt5 ⊢
  rw [show ({ ({ r with now := max r.now c.time } : RS) with done := r.done + 1 } : RS) = r.tick c.time from rfl] at hD5
  clear hW5 q2 q3 hS5 hSt1 M2 M3 X2 X3 N2 N3 Y2 Y3 bC1 bA1 hmx hmy HTt hD1 k1
  have HGt := dget_any hD5 c.stream
  unfold DStr.val at HGt
  rw [show ((r.tick c.time).get c.stream).deleted = true from hd] at HGt
  have HG := Lib.hid HGt
  have hC5 := fun i => bC5.cell i
  clear HGt
  go_wp2_with fail
  refine HG.out.mono ?_
  rintro e2 w8 ⟨rfl, k8⟩
  have hD8 := hD5.keep0 k8
  have bC8 := k8.blk bC5 (by simp)
  have bA8 := k8.blk bA5 (by simp)
  have hC8 := fun i => bC8.cell i
  have HKp := Lib.hid (dkeep_any hD8 c.stream hft.few hs (hft.mt _) (hft.kept _) hft.now)
  clear HG hC5
  go_wp2_with fail
  refine HKp.out.mono ?_
  rintro e3 w9 ⟨rfl, H9, hD9, hSt9⟩
  obtain ⟨bA9, hg9⟩ := hSt9.keepB bA8 hgA
  have hSt := (hSt5.then0 k8).trans hSt9
  have hA9f := fun i => bA9.free i
  have hA9c := fun i => bA9.cell i
  clear HKp hC8
  go_wp2
  have hS4 := (((bA9.set 0 (.int .i64 23)).set 1 (.int .i64 0)).set 2 (.int .i64 0)).set 3 (.bool false)
  have hge : w.heap.size ≤ w.heap.size + 1 := by omega
  have hD4 := (((hD9.setB (k := 0) (u := .int .i64 23) hg9 haz).setB (k := 1) (u := .int .i64 0) hg9 haz).setB (k := 2) (u := .int .i64 0) hg9 haz).setB (k := 3) (u := .bool false) hg9 haz
  have hSt4 := (((hSt.setB (k := 0) (u := .int .i64 23) hge).setB (k := 1) (u := .int .i64 0) hge).setB (k := 2) (u := .int .i64 0) hge).setB (k := 3) (u := .bool false) hge
  have hc4 := hS4.cell
  refine bodyPost_ret (v := .agg #[.int .i64 23, .int .i64 0, .int .i64 0, .bool false]) (by simp [results, Tryz.results10, go_sem, hc4]) rfl ⟨?ans, _, hD4, hSt4⟩
  case ans => rfl
end
end
section
open Go Go.RowKit Go.Sort
section
variable {a w : World} {H : List Nat} {rb : Nat} {r : RS}
set_option maxRecDepth 100000 in
set_option maxHeartbeats 4000000 in
theorem ddo_meta (h : HasD a w H rb r) (hf : r.Fine) (hs : r.s.length + 3 ≤ 1000000) (hdb : 0 ≤ r.done ∧ r.done ≤ 1000000000) (c : Cmd) (v : Value) (he : Slc w 4 v c.events.length (c.events.flatMap EventR.cells)) (ho : CmdOk c) (hk : c.check = 0) (h4 : c.kind = 2) (hd : (r.get c.stream).deleted = false) :
    Calls Tryz.prog 10 #[.pointer (some ⟨rb, 0, none⟩), c.val v] w fun e w' => e = .returned ((r.tick c.time).act c).1.val ∧ DTo a w H rb ((r.tick c.time).act c).2 w' := by
  have hb2 : (c.kind == 2) = true := by simpa using h4
  have hlt4 : c.kind < 4 := by omega
  have H4 := Lib.hid h4
  clear h4
  have hft := hf.tick (check_kind hk).2.2
  obtain ⟨A1, cap1, hev, hn3, hn4, hes⟩ := he.openE EventR.cells (fun _ => rfl)
  unfold maxLen at hn4
  subst hev
  have HCk := Lib.hid (fun (W : World) (hw : Only [] w W) => show Calls Tryz.prog 25 #[.agg #[.int .i64 c.kind, .int .i64 c.time, .string c.stream, .int .i64 c.expected, .slice A1 c.events.length cap1, .int .i64 c.mt.maxCount, .int .i64 c.mt.maxAge, .int .i64 c.mt.before]] W fun e w' => e = .returned (.int .i64 c.check) ∧ Only [] W w' from r7check_any c _ W (he.only0 hw) ho)
  have h2 : ∀ o1 o2, Only [] w ((w.alloc o1).alloc o2) := fun o1 o2 => ((Only.refl [] w).alloc o1).alloc o2
  have kC : ∀ cs t o2, Blk ((w.alloc (.cells cs t)).alloc o2) w.heap.size t cs := fun cs t o2 => ((Only.refl [] _).alloc o2).blk (Blk.new w t cs) (by simp)
  have kA : ∀ cs t o1, Blk ((w.alloc o1).alloc (.cells cs t)) (w.heap.size + 1) t cs := fun cs t o1 => by
    have := Blk.new (w.alloc o1) t cs
    simpa using this
  rw [show c.val (.slice A1 c.events.length cap1) = .agg #[.int .i64 c.kind, .int .i64 c.time, .string c.stream, .int .i64 c.expected, .slice A1 c.events.length cap1, .int .i64 c.mt.maxCount, .int .i64 c.mt.maxAge, .int .i64 c.mt.before] from rfl]
  rw [hk] at HCk
  have hHl := h.lt
  have hfd3 := fldD3
  go_enter Tryz.func10, Tryz.ntmps10
  go_wp2_with fail
  refine (HCk.out _ (h2 _ _)).mono ?_
  rintro e1 w1 ⟨rfl, k1⟩
  go_wp2_with fail
  have hO1 : Only [] w w1 := (h2 _ _).trans k1
  have bC1 := k1.blk (kC _ _ _) (by simp)
  have bA1 := k1.blk (kA _ _ _) (by simp)
  have hD1 := h.keep0 hO1
  obtain ⟨M2, M3, X2, X3⟩ := hD1.nums
  have hrbH := h.rbH
  have hrbl := h.lt rb hrbH
  obtain ⟨t, ht⟩ : ∃ t, t = max r.now c.time := ⟨_, rfl⟩
  have hmx : (if r.now < c.time then c.time else r.now) = t := by rw [ht]; split <;> omega
  have hmy : (if c.time > r.now then c.time else r.now) = t := hmx
  have HTt := Lib.hid ht
  clear ht
  have C1 := Within.cell (S := []) (bC1.cell 1) (by simp)
  have D2 := Within.cell (S := []) M2 (by simp)
  have D3 := Within.cell (S := []) M3 (by simp)
  refine wp_region_in [] [0, 1, 2, 3, 4, 5, 6, 7, 8, 9] [] [10] (by kernel_rfl) (by kernel_rfl) (by intro c d u a w h; cases d <;> exact h) ?_
  show wpQuiet _ _ _ _ [_, _, _, _, _, _, _, _, _, _] _
  repeat (go_big_quiet_step (fail))
  refine wpQuiet_nil ?_
  have N2 := M2
  have N3 := M3
  have Y2 := X2
  have Y3 := X3
  clear C1 D2 D3
  show wpList _ _ _ [_] _ _
  have hne1 : w.heap.size ≠ rb := by omega
  have hne2 : w.heap.size + 1 ≠ rb := by omega
  have hdn := IntWalk.i64_in (r.done + 1) ⟨by omega, by omega⟩
  go_upto_region 6 with (fail)
  have hSt1 : Stepped w w1 H H := Stepped.first0 hO1 (Stepped.refl _ _)
  have q2 := hD1.setNow (max r.now c.time)
  have q3 := q2.1.setDone (r.done + 1)
  have hD5 := q3.1.keep0 (Only.refl [] _).drew
  have hS5 := (q2.2.trans q3.2).then0 (Only.refl [] _).drew
  have hgC : w.heap.size ∉ H := fun q => by have := hHl _ q; omega
  have hgA : w.heap.size + 1 ∉ H := fun q => by have := hHl _ q; omega
  have haz : a.heap.size ≤ w.heap.size + 1 := by have := h.only.size; omega
  have bC5 := (hS5.keepB bC1 hgC).1
  have bA5 := (hS5.keepB bA1 hgA).1
  have hSt5 := hSt1.trans hS5
  obtain ⟨W5, hW5⟩ : ∃ W, W = ((w1.setCell ⟨rb, 2, none⟩ (.int .i64 (max r.now c.time))).setCell ⟨rb, 3, none⟩ (.int .i64 (r.done + 1))).drew := ⟨_, rfl⟩
  rw [← hW5] at hD5 hS5 bC5 bA5 hSt5 ⊢
  rw [show ({ ({ r with now := max r.now c.time } : RS) with done := r.done + 1 } : RS) = r.tick c.time from rfl] at hD5
  clear hW5 q2 q3 hS5 hSt1 M2 M3 X2 X3 N2 N3 Y2 Y3 bC1 bA1 hmx hmy HTt hD1 k1
  have HGt := dget_any hD5 c.stream
  unfold DStr.val at HGt
  rw [show ((r.tick c.time).get c.stream).deleted = false from hd] at HGt
  have HG := Lib.hid HGt
  have HOf := Lib.hid (fun (W : World) (k : Only [] W5 W) => dof_any (hD5.keep0 k) hft.few c.stream)
  have hC5 := fun i => bC5.cell i
  clear HGt
  go_wp2_with fail
  refine HG.out.mono ?_
  rintro e2 w8 ⟨rfl, k8⟩
  have bC8 := k8.blk bC5 (by simp)
  have hC8 := fun i => bC8.cell i
  clear HG hC5
  go_wp2_with fail
  refine (HOf.out _ k8).mono ?_
  rintro e3 w9 ⟨v6, rfl, hown6, k9⟩
  obtain ⟨A6, c6, rfl, hn6, hm6⟩ := own_form hown6
  unfold maxLen at hm6
  have hk9 := k8.trans k9
  have hD9 := hD5.keep0 hk9
  have hSt9 := hSt5.then0 hk9
  have bC9 := hk9.blk bC5 (by simp)
  have bA9 := hk9.blk bA5 (by simp)
  obtain ⟨Al, cl, hls, hl1, hl2⟩ := hD9.ls
  have hlf := hft.few
  have hofl : ((r.tick c.time).of c.stream).length ≤ 1000000 := Nat.le_trans (List.length_filter_le _ _) hft.few
  obtain ⟨R, hR⟩ : ∃ R, R = r.tick c.time := ⟨_, rfl⟩
  rw [← hR] at hown6 hn6 hofl hD9 hls hl1 hlf hft ⊢
  have HR := Lib.hid hR
  clear HOf hC8 bC5 bA5 bC8 hD5 hSt5 hk9 k8 k9 hR hf hd HCk
  have hC9 := fun i => bC9.cell i
  have hwm := IntWalk.i64_in (((R.of c.stream).length : Int) - 1) ⟨by omega, by omega⟩
  obtain ⟨nL, hnL⟩ : ∃ n, n = (R.of c.stream).length := ⟨_, rfl⟩
  obtain ⟨nA, hnA⟩ : ∃ n, n = R.l.length := ⟨_, rfl⟩
  rw [← hnL] at hn6 hofl hwm ⊢
  rw [← hnA] at hls hl1 hlf
  have HnL := Lib.hid hnL
  have HnA := Lib.hid hnA
  have HOwn6 := Lib.hid hown6
  clear hnL hnA hown6
  go_upto_region 14 with (fail)
  obtain ⟨W14, hW14⟩ : ∃ W, W = (w9.alloc (.cells #[.int .i64 0, .int .i64 nL, .int .i64 nA, .bool false] 34)).alloc (.cells #[.int .i64 22, .int .i64 ((nL : Int) - 1), .int .i64 0, .bool false] 34) := ⟨_, rfl⟩
  rw [← hW14]
  have k14 : Only [] w9 W14 := by rw [hW14]; exact ((Only.refl [] w9).alloc _).alloc _
  have bh : Blk W14 w9.heap.size 34 #[.int .i64 0, .int .i64 nL, .int .i64 nA, .bool false] := by rw [hW14]; exact ((Only.refl [] _).alloc _).blk (Blk.new _ _ _) (by simp)
  have bx : Blk W14 (w9.heap.size + 1) 34 #[.int .i64 22, .int .i64 ((nL : Int) - 1), .int .i64 0, .bool false] := by
    rw [hW14]
    have := Blk.new (w9.alloc (.cells #[.int .i64 0, .int .i64 nL, .int .i64 nA, .bool false] 34)) 34 #[.int .i64 22, .int .i64 ((nL : Int) - 1), .int .i64 0, .bool false]
    simpa using this
  have hgh : w9.heap.size ∉ H := fun q => absurd (hD9.lt _ q) (by omega)
  have hgx : w9.heap.size + 1 ∉ H := fun q => absurd (hD9.lt _ q) (by omega)
  have hD14 := hD9.keep0 k14
  have hSt14 := hSt9.then0 k14
  have bC14 := k14.blk bC9 (by simp)
  have bA14 := k14.blk bA9 (by simp)
  have hOwn14 := Lib.hid (own_only HOwn6.out k14 (by simp))
  have hlt6 := Lib.hid (World.ownsRow.lt HOwn6.out)
  have hz9 : w.heap.size ≤ w9.heap.size := hSt9.size
  have hlt9 := bA9.lt
  have hz14 := k14.size
  have hls14 := (k14.cell (p := ⟨rb, 0, none⟩) (hD9.lt rb hrbH) (by simp)).trans hls
  have hC14 := fun i => bC14.cell i
  clear hC9 hls hW14 bC9 bA9 HOwn6 hSt9 w1 hO1
  have hmt := check_mt hk H4.out
  have HK1 := Lib.hid (dkeep_any hD14 c.stream hft.few (by have := HR.out; rw [this]; show r.s.length + 1 ≤ _; omega) (hft.mt _) (hft.kept _) hft.now)
  go_wp2_with fail
  refine HK1.out.mono ?_
  rintro e15 w15 ⟨rfl, H15, hD15, hSt15⟩
  obtain ⟨bC15, gC15⟩ := hSt15.keepB bC14 hgC
  obtain ⟨bA15, gA15⟩ := hSt15.keepB bA14 hgA
  obtain ⟨bh15, gh15⟩ := hSt15.keepB bh hgh
  have hC15 := fun i => bC15.cell i
  have HG15 := dget_any hD15 c.stream
  unfold DStr.val at HG15
  obtain ⟨x, hx⟩ : ∃ x, x = (R.keep c.stream).get c.stream := ⟨_, rfl⟩
  rw [← hx] at HG15
  have HX := Lib.hid hx
  have HG := Lib.hid HG15
  clear hx HG15 HK1 hC14
  go_wp2_with fail
  refine HG.out.mono ?_
  rintro e16 w16 ⟨rfl, k16⟩
  have hz16 := k16.size
  clear hC15 HG
  have bC16 := k16.blk bC15 (by simp)
  have bA16 := k16.blk bA15 (by simp)
  have bh16 := k16.blk bh15 (by simp)
  have hD16 := hD15.keep0 k16
  have hC17 := fun (o : Obj) i => (((Only.refl [] w16).alloc o).blk bC16 (by simp)).cell i
  go_upto_region 43 with (fail)
  obtain ⟨W17, hW17⟩ : ∃ W, W = w16.alloc (.cells #[.string x.name, .int .i64 c.mt.maxCount, .int .i64 c.mt.maxAge, .int .i64 c.mt.before, .int .i64 x.kept, .bool x.deleted] 82) := ⟨_, rfl⟩
  rw [← hW17]
  have k17 : Only [] w16 W17 := by rw [hW17]; exact (Only.refl [] w16).alloc _
  have b17 : Blk W17 w16.heap.size 82 #[.string x.name, .int .i64 c.mt.maxCount, .int .i64 c.mt.maxAge, .int .i64 c.mt.before, .int .i64 x.kept, .bool x.deleted] := by rw [hW17]; exact Blk.new _ _ _
  have hD17 := hD16.keep0 k17
  have bC17 := k17.blk bC16 (by simp)
  have bA17 := k17.blk bA16 (by simp)
  have bh17 := k17.blk bh16 (by simp)
  have hSt17 := ((hSt14.trans hSt15).then0 k16).then0 k17
  have hb17 := fun i => b17.cell i
  have hs15 : (R.keep c.stream).s.length ≤ r.s.length + 1 := by rw [HR.out]; exact keep_len _ _
  have HP := Lib.hid (dput_any hD17 { x with mt := c.mt } (by omega))
  have hf15 := hft.keep c.stream
  have hft18 : ((R.keep c.stream).put { x with mt := c.mt }).Fine := hf15.put (x := { x with mt := c.mt }) hmt (by rw [HX.out]; exact hf15.kept _)
  have hs18 : ((R.keep c.stream).put { x with mt := c.mt }).s.length + 1 ≤ 1000000 := by
    have := put_len (R.keep c.stream) { x with mt := c.mt }
    omega
  clear hC17 hW17
  go_wp2_with fail
  refine HP.out.mono ?_
  rintro e18 w18 ⟨rfl, H18, hD18, hSt18⟩
  obtain ⟨bC18, gC18⟩ := hSt18.keepB bC17 gC15
  obtain ⟨bA18, gA18⟩ := hSt18.keepB bA17 gA15
  obtain ⟨bh18, gh18⟩ := hSt18.keepB bh17 gh15
  have hSt0 := hSt17.trans hSt18
  have HFin := Lib.hid (show (((r.tick c.time).act c).1.val = .agg #[.int .i64 0, .int .i64 nL, .int .i64 nA, .bool false]) ∧ ((r.tick c.time).act c).2 = ((R.keep c.stream).put { x with mt := c.mt }).keep c.stream from by
    rw [← HR.out]
    unfold RS.act
    dsimp only
    rw [if_pos H4.out, HX.out, HnL.out, HnA.out]
    exact ⟨rfl, rfl⟩)
  clear HP hb17 hs15
  have HKp := Lib.hid (dkeep_any hD18 c.stream (hft18).few hs18 ((hft18).mt _) ((hft18).kept _) (hft18).now)
  have hCz := fun i => (bC18).cell i
  go_wp2_with fail
  refine HKp.out.mono ?_
  rintro eK wK ⟨rfl, HK, hDK, hStK⟩
  obtain ⟨bAK, gAK⟩ := hStK.keepB bA18 gA18
  obtain ⟨bhK, ghK⟩ := hStK.keepB bh18 gh18
  have hAKc := fun i => bAK.cell i
  have hAKf := fun i => bAK.free i
  have hhKc := fun i => bhK.cell i
  have hStT := (hSt0).trans hStK
  clear HKp hCz
  rw [← HFin.out.2] at hDK
  go_wp2
  have hS4 := (((bAK.set 0 (.int .i64 0)).set 1 (.int .i64 nL)).set 2 (.int .i64 nA)).set 3 (.bool false)
  have hge : w.heap.size ≤ w.heap.size + 1 := by omega
  have hD4 := (((hDK.setB (k := 0) (u := .int .i64 0) gAK haz).setB (k := 1) (u := .int .i64 nL) gAK haz).setB (k := 2) (u := .int .i64 nA) gAK haz).setB (k := 3) (u := .bool false) gAK haz
  have hSt4 := (((hStT.setB (k := 0) (u := .int .i64 0) hge).setB (k := 1) (u := .int .i64 nL) hge).setB (k := 2) (u := .int .i64 nA) hge).setB (k := 3) (u := .bool false) hge
  have hc4 := hS4.cell
  refine bodyPost_ret (v := .agg #[.int .i64 0, .int .i64 nL, .int .i64 nA, .bool false]) (by simp [results, Tryz.results10, go_sem, hc4]) rfl ⟨?ans, _, hD4, hSt4⟩
  case ans => rw [HFin.out.1]
end
end
section
open Go Go.RowKit Go.Sort
section
variable {a w : World} {H : List Nat} {rb : Nat} {r : RS}
set_option maxRecDepth 100000 in
set_option maxHeartbeats 4000000 in
theorem ddo_del (h : HasD a w H rb r) (hf : r.Fine) (hs : r.s.length + 3 ≤ 1000000) (hdb : 0 ≤ r.done ∧ r.done ≤ 1000000000) (c : Cmd) (v : Value) (he : Slc w 4 v c.events.length (c.events.flatMap EventR.cells)) (ho : CmdOk c) (hk : c.check = 0) (h4 : c.kind = 3) (hd : (r.get c.stream).deleted = false) :
    Calls Tryz.prog 10 #[.pointer (some ⟨rb, 0, none⟩), c.val v] w fun e w' => e = .returned ((r.tick c.time).act c).1.val ∧ DTo a w H rb ((r.tick c.time).act c).2 w' := by
  have hb2 : (c.kind == 2) = false := by rw [beq_eq_false_iff_ne]; omega
  have hb3 : (c.kind == 3) = true := by simpa using h4
  have hlt4 : c.kind < 4 := by omega
  have H4 := Lib.hid h4
  clear h4
  have hft := hf.tick (check_kind hk).2.2
  obtain ⟨A1, cap1, hev, hn3, hn4, hes⟩ := he.openE EventR.cells (fun _ => rfl)
  unfold maxLen at hn4
  subst hev
  have HCk := Lib.hid (fun (W : World) (hw : Only [] w W) => show Calls Tryz.prog 25 #[.agg #[.int .i64 c.kind, .int .i64 c.time, .string c.stream, .int .i64 c.expected, .slice A1 c.events.length cap1, .int .i64 c.mt.maxCount, .int .i64 c.mt.maxAge, .int .i64 c.mt.before]] W fun e w' => e = .returned (.int .i64 c.check) ∧ Only [] W w' from r7check_any c _ W (he.only0 hw) ho)
  have h2 : ∀ o1 o2, Only [] w ((w.alloc o1).alloc o2) := fun o1 o2 => ((Only.refl [] w).alloc o1).alloc o2
  have kC : ∀ cs t o2, Blk ((w.alloc (.cells cs t)).alloc o2) w.heap.size t cs := fun cs t o2 => ((Only.refl [] _).alloc o2).blk (Blk.new w t cs) (by simp)
  have kA : ∀ cs t o1, Blk ((w.alloc o1).alloc (.cells cs t)) (w.heap.size + 1) t cs := fun cs t o1 => by
    have := Blk.new (w.alloc o1) t cs
    simpa using this
  rw [show c.val (.slice A1 c.events.length cap1) = .agg #[.int .i64 c.kind, .int .i64 c.time, .string c.stream, .int .i64 c.expected, .slice A1 c.events.length cap1, .int .i64 c.mt.maxCount, .int .i64 c.mt.maxAge, .int .i64 c.mt.before] from rfl]
  rw [hk] at HCk
  have hHl := h.lt
  have hfd3 := fldD3
  go_enter Tryz.func10, Tryz.ntmps10
  go_wp2_with fail
  refine (HCk.out _ (h2 _ _)).mono ?_
  rintro e1 w1 ⟨rfl, k1⟩
  go_wp2_with fail
  have hO1 : Only [] w w1 := (h2 _ _).trans k1
  have bC1 := k1.blk (kC _ _ _) (by simp)
  have bA1 := k1.blk (kA _ _ _) (by simp)
  have hD1 := h.keep0 hO1
  obtain ⟨M2, M3, X2, X3⟩ := hD1.nums
  have hrbH := h.rbH
  have hrbl := h.lt rb hrbH
  obtain ⟨t, ht⟩ : ∃ t, t = max r.now c.time := ⟨_, rfl⟩
  have hmx : (if r.now < c.time then c.time else r.now) = t := by rw [ht]; split <;> omega
  have hmy : (if c.time > r.now then c.time else r.now) = t := hmx
  have HTt := Lib.hid ht
  clear ht
  have C1 := Within.cell (S := []) (bC1.cell 1) (by simp)
  have D2 := Within.cell (S := []) M2 (by simp)
  have D3 := Within.cell (S := []) M3 (by simp)
  refine wp_region_in [] [0, 1, 2, 3, 4, 5, 6, 7, 8, 9] [] [10] (by kernel_rfl) (by kernel_rfl) (by intro c d u a w h; cases d <;> exact h) ?_
  show wpQuiet _ _ _ _ [_, _, _, _, _, _, _, _, _, _] _
  repeat (go_big_quiet_step (fail))
  refine wpQuiet_nil ?_
  have N2 := M2
  have N3 := M3
  have Y2 := X2
  have Y3 := X3
  clear C1 D2 D3
  show wpList _ _ _ [_] _ _
  have hne1 : w.heap.size ≠ rb := by omega
  have hne2 : w.heap.size + 1 ≠ rb := by omega
  have hdn := IntWalk.i64_in (r.done + 1) ⟨by omega, by omega⟩
  go_upto_region 6 with (fail)
  have hSt1 : Stepped w w1 H H := Stepped.first0 hO1 (Stepped.refl _ _)
  have q2 := hD1.setNow (max r.now c.time)
  have q3 := q2.1.setDone (r.done + 1)
  have hD5 := q3.1.keep0 (Only.refl [] _).drew
  have hS5 := (q2.2.trans q3.2).then0 (Only.refl [] _).drew
  have hgC : w.heap.size ∉ H := fun q => by have := hHl _ q; omega
  have hgA : w.heap.size + 1 ∉ H := fun q => by have := hHl _ q; omega
  have haz : a.heap.size ≤ w.heap.size + 1 := by have := h.only.size; omega
  have bC5 := (hS5.keepB bC1 hgC).1
  have bA5 := (hS5.keepB bA1 hgA).1
  have hSt5 := hSt1.trans hS5
  obtain ⟨W5, hW5⟩ : ∃ W, W = ((w1.setCell ⟨rb, 2, none⟩ (.int .i64 (max r.now c.time))).setCell ⟨rb, 3, none⟩ (.int .i64 (r.done + 1))).drew := ⟨_, rfl⟩
  rw [← hW5] at hD5 hS5 bC5 bA5 hSt5 ⊢
  rw [show ({ ({ r with now := max r.now c.time } : RS) with done := r.done + 1 } : RS) = r.tick c.time from rfl] at hD5
  clear hW5 q2 q3 hS5 hSt1 M2 M3 X2 X3 N2 N3 Y2 Y3 bC1 bA1 hmx hmy HTt hD1 k1
  have HGt := dget_any hD5 c.stream
  unfold DStr.val at HGt
  rw [show ((r.tick c.time).get c.stream).deleted = false from hd] at HGt
  have HG := Lib.hid HGt
  have HOf := Lib.hid (fun (W : World) (k : Only [] W5 W) => dof_any (hD5.keep0 k) hft.few c.stream)
  have hC5 := fun i => bC5.cell i
  clear HGt
  go_wp2_with fail
  refine HG.out.mono ?_
  rintro e2 w8 ⟨rfl, k8⟩
  have bC8 := k8.blk bC5 (by simp)
  have hC8 := fun i => bC8.cell i
  clear HG hC5
  go_wp2_with fail
  refine (HOf.out _ k8).mono ?_
  rintro e3 w9 ⟨v6, rfl, hown6, k9⟩
  obtain ⟨A6, c6, rfl, hn6, hm6⟩ := own_form hown6
  unfold maxLen at hm6
  have hk9 := k8.trans k9
  have hD9 := hD5.keep0 hk9
  have hSt9 := hSt5.then0 hk9
  have bC9 := hk9.blk bC5 (by simp)
  have bA9 := hk9.blk bA5 (by simp)
  obtain ⟨Al, cl, hls, hl1, hl2⟩ := hD9.ls
  have hlf := hft.few
  have hofl : ((r.tick c.time).of c.stream).length ≤ 1000000 := Nat.le_trans (List.length_filter_le _ _) hft.few
  obtain ⟨R, hR⟩ : ∃ R, R = r.tick c.time := ⟨_, rfl⟩
  rw [← hR] at hown6 hn6 hofl hD9 hls hl1 hlf hft ⊢
  have HR := Lib.hid hR
  clear HOf hC8 bC5 bA5 bC8 hD5 hSt5 hk9 k8 k9 hR hf hd HCk
  have hC9 := fun i => bC9.cell i
  have hwm := IntWalk.i64_in (((R.of c.stream).length : Int) - 1) ⟨by omega, by omega⟩
  obtain ⟨nL, hnL⟩ : ∃ n, n = (R.of c.stream).length := ⟨_, rfl⟩
  obtain ⟨nA, hnA⟩ : ∃ n, n = R.l.length := ⟨_, rfl⟩
  rw [← hnL] at hn6 hofl hwm ⊢
  rw [← hnA] at hls hl1 hlf
  have HnL := Lib.hid hnL
  have HnA := Lib.hid hnA
  have HOwn6 := Lib.hid hown6
  clear hnL hnA hown6
  go_upto_region 14 with (fail)
  obtain ⟨W14, hW14⟩ : ∃ W, W = (w9.alloc (.cells #[.int .i64 0, .int .i64 nL, .int .i64 nA, .bool false] 34)).alloc (.cells #[.int .i64 22, .int .i64 ((nL : Int) - 1), .int .i64 0, .bool false] 34) := ⟨_, rfl⟩
  rw [← hW14]
  have k14 : Only [] w9 W14 := by rw [hW14]; exact ((Only.refl [] w9).alloc _).alloc _
  have bh : Blk W14 w9.heap.size 34 #[.int .i64 0, .int .i64 nL, .int .i64 nA, .bool false] := by rw [hW14]; exact ((Only.refl [] _).alloc _).blk (Blk.new _ _ _) (by simp)
  have bx : Blk W14 (w9.heap.size + 1) 34 #[.int .i64 22, .int .i64 ((nL : Int) - 1), .int .i64 0, .bool false] := by
    rw [hW14]
    have := Blk.new (w9.alloc (.cells #[.int .i64 0, .int .i64 nL, .int .i64 nA, .bool false] 34)) 34 #[.int .i64 22, .int .i64 ((nL : Int) - 1), .int .i64 0, .bool false]
    simpa using this
  have hgh : w9.heap.size ∉ H := fun q => absurd (hD9.lt _ q) (by omega)
  have hgx : w9.heap.size + 1 ∉ H := fun q => absurd (hD9.lt _ q) (by omega)
  have hD14 := hD9.keep0 k14
  have hSt14 := hSt9.then0 k14
  have bC14 := k14.blk bC9 (by simp)
  have bA14 := k14.blk bA9 (by simp)
  have hOwn14 := Lib.hid (own_only HOwn6.out k14 (by simp))
  have hlt6 := Lib.hid (World.ownsRow.lt HOwn6.out)
  have hz9 : w.heap.size ≤ w9.heap.size := hSt9.size
  have hlt9 := bA9.lt
  have hz14 := k14.size
  have hls14 := (k14.cell (p := ⟨rb, 0, none⟩) (hD9.lt rb hrbH) (by simp)).trans hls
  have hC14 := fun i => bC14.cell i
  clear hC9 hls hW14 bC9 bA9 HOwn6 hSt9 w1 hO1
  have HFt := Lib.hid (fun (W : World) => dfits_any c.expected nL W (by omega))
  have hsR : R.s.length + 3 ≤ 1000000 := by rw [HR.out]; exact hs
  cases hq : fitsD c.expected nL with
  | false =>
    rw [hq] at HFt
    have HFin := Lib.hid (show (((r.tick c.time).act c).1.val = .agg #[.int .i64 22, .int .i64 ((nL : Int) - 1), .int .i64 0, .bool false]) ∧ ((r.tick c.time).act c).2 = R.keep c.stream from by
      rw [← HR.out]
      unfold RS.act
      dsimp only
      rw [if_neg (by rw [H4.out]; decide), if_pos H4.out, ← HnL.out, if_pos hq]
      unfold RS.wrongD
      rw [← HnL.out]
      exact ⟨rfl, rfl⟩)
    have hXc := fun i => bx.cell i
    have hHc := fun i => bh.cell i
    have hHf := fun i => bh.free i
    go_upto_region 50 with (go_at_call 30; refine (HFt.out _).mono ?_; rintro e15 w15 ⟨rfl, rfl⟩)
    have bhW := (((bh.set 0 (.int .i64 22)).set 1 (.int .i64 ((nL : Int) - 1))).set 2 (.int .i64 0)).set 3 (.bool false)
    have koW : Only [w9.heap.size] W14 ((((W14.setCell ⟨w9.heap.size, 0, none⟩ (.int .i64 22)).setCell ⟨w9.heap.size, 1, none⟩ (.int .i64 ((nL : Int) - 1))).setCell ⟨w9.heap.size, 2, none⟩ (.int .i64 0)).setCell ⟨w9.heap.size, 3, none⟩ (.bool false)) := by
      iterate 4 (refine Only.setCell ?_ (.inl (by simp)) _)
      exact Only.refl _ _
    have bCW := koW.blk bC14 (by simp; omega)
    have bAW := koW.blk bA14 (by simp; omega)
    have hDW := hD14.keep koW (by have := h.only.size; simp; omega) (fun b hb => by simp; exact fun e => hgh (e ▸ hb))
    have hStW := (((hSt14.setB (g := w9.heap.size) (k := 0) (u := .int .i64 22) hz9).setB (g := w9.heap.size) (k := 1) (u := .int .i64 ((nL : Int) - 1)) hz9).setB (g := w9.heap.size) (k := 2) (u := .int .i64 0) hz9).setB (g := w9.heap.size) (k := 3) (u := .bool false) hz9
    obtain ⟨WW, hWW⟩ : ∃ W, W = (((W14.setCell ⟨w9.heap.size, 0, none⟩ (.int .i64 22)).setCell ⟨w9.heap.size, 1, none⟩ (.int .i64 ((nL : Int) - 1))).setCell ⟨w9.heap.size, 2, none⟩ (.int .i64 0)).setCell ⟨w9.heap.size, 3, none⟩ (.bool false) := ⟨_, rfl⟩
    rw [← hWW] at bhW koW bCW bAW hDW hStW ⊢
    clear hWW
    have hs18 : R.s.length + 1 ≤ 1000000 := by omega
    clear hXc hHc hHf hC14 HFt
    have HKp := Lib.hid (dkeep_any hDW c.stream (hft).few hs18 ((hft).mt _) ((hft).kept _) (hft).now)
    have hCz := fun i => (bCW).cell i
    go_wp2_with fail
    refine HKp.out.mono ?_
    rintro eK wK ⟨rfl, HK, hDK, hStK⟩
    obtain ⟨bAK, gAK⟩ := hStK.keepB bAW hgA
    obtain ⟨bhK, ghK⟩ := hStK.keepB bhW hgh
    have hAKc := fun i => bAK.cell i
    have hAKf := fun i => bAK.free i
    have hhKc := fun i => bhK.cell i
    have hStT := (hStW).trans hStK
    clear HKp hCz
    rw [← HFin.out.2] at hDK
    go_wp2
    have hS4 := (((bAK.set 0 (.int .i64 22)).set 1 (.int .i64 ((nL : Int) - 1))).set 2 (.int .i64 0)).set 3 (.bool false)
    have hge : w.heap.size ≤ w.heap.size + 1 := by omega
    have hD4 := (((hDK.setB (k := 0) (u := .int .i64 22) gAK haz).setB (k := 1) (u := .int .i64 ((nL : Int) - 1)) gAK haz).setB (k := 2) (u := .int .i64 0) gAK haz).setB (k := 3) (u := .bool false) gAK haz
    have hSt4 := (((hStT.setB (k := 0) (u := .int .i64 22) hge).setB (k := 1) (u := .int .i64 ((nL : Int) - 1)) hge).setB (k := 2) (u := .int .i64 0) hge).setB (k := 3) (u := .bool false) hge
    have hc4 := hS4.cell
    refine bodyPost_ret (v := .agg #[.int .i64 22, .int .i64 ((nL : Int) - 1), .int .i64 0, .bool false]) (by simp [results, Tryz.results10, go_sem, hc4]) rfl ⟨?ans, _, hD4, hSt4⟩
    case ans => rw [HFin.out.1]
  | true =>
    rw [hq] at HFt
    obtain ⟨x, hx⟩ : ∃ x, x = R.get c.stream := ⟨_, rfl⟩
    have HFin := Lib.hid (show (((r.tick c.time).act c).1.val = .agg #[.int .i64 0, .int .i64 nL, .int .i64 nA, .bool false]) ∧ ((r.tick c.time).act c).2 = (R.put { x with deleted := true }).keep c.stream from by
      rw [← HR.out]
      unfold RS.act
      dsimp only
      rw [if_neg (by rw [H4.out]; decide), if_pos H4.out, ← HnL.out, if_neg (by rw [hq]; simp), hx, HnA.out]
      exact ⟨rfl, rfl⟩)
    have HG15 := dget_any hD14 c.stream
    unfold DStr.val at HG15
    rw [← hx] at HG15
    have HX := Lib.hid hx
    have HG := Lib.hid HG15
    clear hx HG15
    go_wp2_with (go_at_call 30; refine (HFt.out _).mono ?_; rintro e15 w15 ⟨rfl, rfl⟩)
    refine HG.out.mono ?_
    rintro e16 w16 ⟨rfl, k16⟩
    have bC16 := k16.blk bC14 (by simp)
    have bA16 := k16.blk bA14 (by simp)
    have bh16 := k16.blk bh (by simp)
    have hD16 := hD14.keep0 k16
    go_upto_region 49 with (fail)
    obtain ⟨W17, hW17⟩ : ∃ W, W = w16.alloc (.cells #[.string x.name, .int .i64 x.mt.maxCount, .int .i64 x.mt.maxAge, .int .i64 x.mt.before, .int .i64 x.kept, .bool true] 82) := ⟨_, rfl⟩
    rw [← hW17]
    have k17 : Only [] w16 W17 := by rw [hW17]; exact (Only.refl [] w16).alloc _
    have b17 : Blk W17 w16.heap.size 82 #[.string x.name, .int .i64 x.mt.maxCount, .int .i64 x.mt.maxAge, .int .i64 x.mt.before, .int .i64 x.kept, .bool true] := by rw [hW17]; exact Blk.new _ _ _
    have hD17 := hD16.keep0 k17
    have bC17 := k17.blk bC16 (by simp)
    have bA17 := k17.blk bA16 (by simp)
    have bh17 := k17.blk bh16 (by simp)
    have hSt17 := (hSt14.then0 k16).then0 k17
    have hb17 := fun i => b17.cell i
    have HP := Lib.hid (dput_any hD17 { x with deleted := true } (by omega))
    have hft18 : (R.put { x with deleted := true }).Fine := hft.put (x := { x with deleted := true }) (by rw [HX.out]; exact hft.mt _) (by rw [HX.out]; exact hft.kept _)
    have hs18 : (R.put { x with deleted := true }).s.length + 1 ≤ 1000000 := by
      have := put_len R { x with deleted := true }
      omega
    clear hW17 hC14
    go_wp2_with fail
    refine HP.out.mono ?_
    rintro e18 w18 ⟨rfl, H18, hD18, hSt18⟩
    obtain ⟨bC18, gC18⟩ := hSt18.keepB bC17 hgC
    obtain ⟨bA18, gA18⟩ := hSt18.keepB bA17 hgA
    obtain ⟨bh18, gh18⟩ := hSt18.keepB bh17 hgh
    have hSt0 := hSt17.trans hSt18
    clear HP hb17
    have HKp := Lib.hid (dkeep_any hD18 c.stream (hft18).few hs18 ((hft18).mt _) ((hft18).kept _) (hft18).now)
    have hCz := fun i => (bC18).cell i
    go_wp2_with fail
    refine HKp.out.mono ?_
    rintro eK wK ⟨rfl, HK, hDK, hStK⟩
    obtain ⟨bAK, gAK⟩ := hStK.keepB bA18 gA18
    obtain ⟨bhK, ghK⟩ := hStK.keepB bh18 gh18
    have hAKc := fun i => bAK.cell i
    have hAKf := fun i => bAK.free i
    have hhKc := fun i => bhK.cell i
    have hStT := (hSt0).trans hStK
    clear HKp hCz
    rw [← HFin.out.2] at hDK
    go_wp2
    have hS4 := (((bAK.set 0 (.int .i64 0)).set 1 (.int .i64 nL)).set 2 (.int .i64 nA)).set 3 (.bool false)
    have hge : w.heap.size ≤ w.heap.size + 1 := by omega
    have hD4 := (((hDK.setB (k := 0) (u := .int .i64 0) gAK haz).setB (k := 1) (u := .int .i64 nL) gAK haz).setB (k := 2) (u := .int .i64 nA) gAK haz).setB (k := 3) (u := .bool false) gAK haz
    have hSt4 := (((hStT.setB (k := 0) (u := .int .i64 0) hge).setB (k := 1) (u := .int .i64 nL) hge).setB (k := 2) (u := .int .i64 nA) hge).setB (k := 3) (u := .bool false) hge
    have hc4 := hS4.cell
    refine bodyPost_ret (v := .agg #[.int .i64 0, .int .i64 nL, .int .i64 nA, .bool false]) (by simp [results, Tryz.results10, go_sem, hc4]) rfl ⟨?ans, _, hD4, hSt4⟩
    case ans => rw [HFin.out.1]
end
end
section
open Go Go.RowKit Go.Sort
theorem evs_one {l : List EventR} (h : eventsE l = 0) : 0 < l.length := by
  cases l with
  | nil => exact absurd h (by decide)
  | cons x l => simp
theorem head_id (l : List EventR) (h : 0 < l.length) : l[0].id = ((l.head?).map (·.id)).getD 0 := by
  cases l with
  | nil => cases h
  | cons x l => rfl
theorem idsAt_take {x : EventR} : ∀ (es : List EventR) (L : List StoredR) (k : Nat) (hk : k < es.length) (hl : k < L.length), idsAt (es.take (k + 1)) L = (idsAt (es.take k) L && decide (L[k].ev.id = es[k].id))
  | [], _, k, hk, _ => by simp at hk
  | e :: es, [], k, _, hl => by simp at hl
  | e :: es, y :: L, 0, _, _ => by simp [idsAt]
  | e :: es, y :: L, k + 1, hk, hl => by
    simp only [List.take_succ_cons, idsAt, List.getElem_cons_succ]
    rw [idsAt_take (x := x) es L k (by simpa using hk) (by simpa using hl), Bool.and_assoc]
theorem idsAt_pre : ∀ (es : List EventR) (L : List StoredR) (k : Nat), idsAt (es.take k) L = false → idsAt es L = false
  | [], L, k, h => by simpa using h
  | e :: es, L, 0, h => by simp [idsAt] at h
  | e :: es, [], k + 1, h => rfl
  | e :: es, y :: L, k + 1, h => by
    simp only [List.take_succ_cons, idsAt, Bool.and_eq_false_iff] at h ⊢
    exact h.imp id (idsAt_pre es L k)
theorem firstAt_nil (id : Int) (k : Int) : firstAt id [] k = -1 := rfl
theorem firstAt_yes {id : Int} {y : StoredR} {l : List StoredR} {k : Int} (h : y.ev.id = id) : firstAt id (y :: l) k = k := by unfold firstAt; rw [if_pos h]
theorem firstAt_no {id : Int} {y : StoredR} {l : List StoredR} {k : Int} (h : ¬ y.ev.id = id) : firstAt id (y :: l) k = firstAt id l (k + 1) := by
  show (if y.ev.id = id then k else firstAt id l (k + 1)) = _
  rw [if_neg h]
theorem firstAt_bd (id : Int) : ∀ (l : List StoredR) (k : Int), 0 ≤ k → firstAt id l k = -1 ∨ (k ≤ firstAt id l k ∧ firstAt id l k < k + l.length)
  | [], k, _ => .inl rfl
  | y :: l, k, hk => by
    by_cases h : y.ev.id = id
    · rw [firstAt_yes h, List.length_cons]; right; omega
    · rw [firstAt_no h, List.length_cons]
      rcases firstAt_bd id l (k + 1) (by omega) with q | q
      · exact .inl q
      · right; omega
theorem firstAt_old (id : Int) (x : StoredR) : ∀ (l : List StoredR) (k : Int), 0 ≤ k → 0 ≤ firstAt id l k → firstAt id (l ++ [x]) k = firstAt id l k
  | [], k, _, h => by rw [firstAt_nil] at h; omega
  | y :: l, k, hk, h => by
    by_cases q : y.ev.id = id
    · rw [List.cons_append, firstAt_yes q, firstAt_yes q]
    · rw [firstAt_no q] at h
      rw [List.cons_append, firstAt_no q, firstAt_no q, firstAt_old id x l (k + 1) (by omega) h]
theorem firstAt_new (id : Int) (x : StoredR) : ∀ (l : List StoredR) (k : Int), 0 ≤ k → firstAt id l k < 0 → firstAt id (l ++ [x]) k = if x.ev.id = id then k + l.length else -1
  | [], k, hk, h => by
    rw [List.nil_append]
    by_cases q : x.ev.id = id
    · rw [firstAt_yes q, if_pos q]; simp
    · rw [firstAt_no q, if_neg q]; rfl
  | y :: l, k, hk, h => by
    by_cases q : y.ev.id = id
    · rw [firstAt_yes q] at h; omega
    · rw [firstAt_no q] at h
      rw [List.cons_append, firstAt_no q, firstAt_new id x l (k + 1) (by omega) h, List.length_cons]
      by_cases z : x.ev.id = id
      · rw [if_pos z, if_pos z]; omega
      · rw [if_neg z, if_neg z]
section
variable {a w : World} {H : List Nat} {rb : Nat} {r : RS}
set_option maxRecDepth 100000 in
set_option maxHeartbeats 4000000 in
theorem ddo_app1 (h : HasD a w H rb r) (hf : r.Fine) (hs : r.s.length + 3 ≤ 1000000) (hdb : 0 ≤ r.done ∧ r.done ≤ 1000000000) (c : Cmd) (v : Value) (he : Slc w 4 v c.events.length (c.events.flatMap EventR.cells)) (hn : ∀ g, v.ownBlock = some g → g ∉ H) (ho : CmdOk c) (hk : c.check = 0) (h4 : c.kind = 1) (hd : (r.get c.stream).deleted = false)
    (hv : 0 ≤ firstAt (((c.events.head?).map (·.id)).getD 0) (r.of c.stream) 0) :
    Calls Tryz.prog 10 #[.pointer (some ⟨rb, 0, none⟩), c.val v] w fun e w' => e = .returned ((r.tick c.time).act c).1.val ∧ DTo a w H rb ((r.tick c.time).act c).2 w' := by
  have hb2 : (c.kind == 2) = false := by rw [beq_eq_false_iff_ne]; omega
  have hb3 : (c.kind == 3) = false := by rw [beq_eq_false_iff_ne]; omega
  have hlt4 : c.kind < 4 := by omega
  have H4 := Lib.hid h4
  clear h4
  have hft := hf.tick (check_kind hk).2.2
  obtain ⟨A1, cap1, hev, hn3, hn4, hes⟩ := he.openE EventR.cells (fun _ => rfl)
  unfold maxLen at hn4
  subst hev
  have HCk := Lib.hid (fun (W : World) (hw : Only [] w W) => show Calls Tryz.prog 25 #[.agg #[.int .i64 c.kind, .int .i64 c.time, .string c.stream, .int .i64 c.expected, .slice A1 c.events.length cap1, .int .i64 c.mt.maxCount, .int .i64 c.mt.maxAge, .int .i64 c.mt.before]] W fun e w' => e = .returned (.int .i64 c.check) ∧ Only [] W w' from r7check_any c _ W (he.only0 hw) ho)
  have h2 : ∀ o1 o2, Only [] w ((w.alloc o1).alloc o2) := fun o1 o2 => ((Only.refl [] w).alloc o1).alloc o2
  have kC : ∀ cs t o2, Blk ((w.alloc (.cells cs t)).alloc o2) w.heap.size t cs := fun cs t o2 => ((Only.refl [] _).alloc o2).blk (Blk.new w t cs) (by simp)
  have kA : ∀ cs t o1, Blk ((w.alloc o1).alloc (.cells cs t)) (w.heap.size + 1) t cs := fun cs t o1 => by
    have := Blk.new (w.alloc o1) t cs
    simpa using this
  rw [show c.val (.slice A1 c.events.length cap1) = .agg #[.int .i64 c.kind, .int .i64 c.time, .string c.stream, .int .i64 c.expected, .slice A1 c.events.length cap1, .int .i64 c.mt.maxCount, .int .i64 c.mt.maxAge, .int .i64 c.mt.before] from rfl]
  rw [hk] at HCk
  have hHl := h.lt
  have hfd3 := fldD3
  go_enter Tryz.func10, Tryz.ntmps10
  go_wp2_with fail
  refine (HCk.out _ (h2 _ _)).mono ?_
  rintro e1 w1 ⟨rfl, k1⟩
  go_wp2_with fail
  have hO1 : Only [] w w1 := (h2 _ _).trans k1
  have bC1 := k1.blk (kC _ _ _) (by simp)
  have bA1 := k1.blk (kA _ _ _) (by simp)
  have hD1 := h.keep0 hO1
  obtain ⟨M2, M3, X2, X3⟩ := hD1.nums
  have hrbH := h.rbH
  have hrbl := h.lt rb hrbH
  obtain ⟨t, ht⟩ : ∃ t, t = max r.now c.time := ⟨_, rfl⟩
  have hmx : (if r.now < c.time then c.time else r.now) = t := by rw [ht]; split <;> omega
  have hmy : (if c.time > r.now then c.time else r.now) = t := hmx
  have HTt := Lib.hid ht
  clear ht
  have C1 := Within.cell (S := []) (bC1.cell 1) (by simp)
  have D2 := Within.cell (S := []) M2 (by simp)
  have D3 := Within.cell (S := []) M3 (by simp)
  refine wp_region_in [] [0, 1, 2, 3, 4, 5, 6, 7, 8, 9] [] [10] (by kernel_rfl) (by kernel_rfl) (by intro c d u a w h; cases d <;> exact h) ?_
  show wpQuiet _ _ _ _ [_, _, _, _, _, _, _, _, _, _] _
  repeat (go_big_quiet_step (fail))
  refine wpQuiet_nil ?_
  have N2 := M2
  have N3 := M3
  have Y2 := X2
  have Y3 := X3
  clear C1 D2 D3
  show wpList _ _ _ [_] _ _
  have hne1 : w.heap.size ≠ rb := by omega
  have hne2 : w.heap.size + 1 ≠ rb := by omega
  have hdn := IntWalk.i64_in (r.done + 1) ⟨by omega, by omega⟩
  go_upto_region 6 with (fail)
  have hSt1 : Stepped w w1 H H := Stepped.first0 hO1 (Stepped.refl _ _)
  have q2 := hD1.setNow (max r.now c.time)
  have q3 := q2.1.setDone (r.done + 1)
  have hD5 := q3.1.keep0 (Only.refl [] _).drew
  have hS5 := (q2.2.trans q3.2).then0 (Only.refl [] _).drew
  have hgC : w.heap.size ∉ H := fun q => by have := hHl _ q; omega
  have hgA : w.heap.size + 1 ∉ H := fun q => by have := hHl _ q; omega
  have haz : a.heap.size ≤ w.heap.size + 1 := by have := h.only.size; omega
  have bC5 := (hS5.keepB bC1 hgC).1
  have bA5 := (hS5.keepB bA1 hgA).1
  have hSt5 := hSt1.trans hS5
  obtain ⟨W5, hW5⟩ : ∃ W, W = ((w1.setCell ⟨rb, 2, none⟩ (.int .i64 (max r.now c.time))).setCell ⟨rb, 3, none⟩ (.int .i64 (r.done + 1))).drew := ⟨_, rfl⟩
  rw [← hW5] at hD5 hS5 bC5 bA5 hSt5 ⊢
  rw [show ({ ({ r with now := max r.now c.time } : RS) with done := r.done + 1 } : RS) = r.tick c.time from rfl] at hD5
  clear hW5 q2 q3 hS5 hSt1 M2 M3 X2 X3 N2 N3 Y2 Y3 bC1 bA1 hmx hmy HTt hD1 k1
  have HGt := dget_any hD5 c.stream
  unfold DStr.val at HGt
  rw [show ((r.tick c.time).get c.stream).deleted = false from hd] at HGt
  have HG := Lib.hid HGt
  have HOf := Lib.hid (fun (W : World) (k : Only [] W5 W) => dof_any (hD5.keep0 k) hft.few c.stream)
  have hC5 := fun i => bC5.cell i
  clear HGt
  go_wp2_with fail
  refine HG.out.mono ?_
  rintro e2 w8 ⟨rfl, k8⟩
  have bC8 := k8.blk bC5 (by simp)
  have hC8 := fun i => bC8.cell i
  clear HG hC5
  go_wp2_with fail
  refine (HOf.out _ k8).mono ?_
  rintro e3 w9 ⟨v6, rfl, hown6, k9⟩
  obtain ⟨A6, c6, rfl, hn6, hm6⟩ := own_form hown6
  unfold maxLen at hm6
  have hk9 := k8.trans k9
  have hD9 := hD5.keep0 hk9
  have hSt9 := hSt5.then0 hk9
  have bC9 := hk9.blk bC5 (by simp)
  have bA9 := hk9.blk bA5 (by simp)
  obtain ⟨Al, cl, hls, hl1, hl2⟩ := hD9.ls
  have hlf := hft.few
  have hofl : ((r.tick c.time).of c.stream).length ≤ 1000000 := Nat.le_trans (List.length_filter_le _ _) hft.few
  obtain ⟨R, hR⟩ : ∃ R, R = r.tick c.time := ⟨_, rfl⟩
  rw [← hR] at hown6 hn6 hofl hD9 hls hl1 hlf hft ⊢
  have HR := Lib.hid hR
  clear HOf hC8 bC5 bA5 bC8 hD5 hSt5 hk9 k8 k9 hR hf hd HCk
  have hC9 := fun i => bC9.cell i
  have hwm := IntWalk.i64_in (((R.of c.stream).length : Int) - 1) ⟨by omega, by omega⟩
  obtain ⟨nL, hnL⟩ : ∃ n, n = (R.of c.stream).length := ⟨_, rfl⟩
  obtain ⟨nA, hnA⟩ : ∃ n, n = R.l.length := ⟨_, rfl⟩
  rw [← hnL] at hn6 hofl hwm ⊢
  rw [← hnA] at hls hl1 hlf
  have HnL := Lib.hid hnL
  have HnA := Lib.hid hnA
  have HOwn6 := Lib.hid hown6
  clear hnL hnA hown6
  go_upto_region 14 with (fail)
  obtain ⟨W14, hW14⟩ : ∃ W, W = (w9.alloc (.cells #[.int .i64 0, .int .i64 nL, .int .i64 nA, .bool false] 34)).alloc (.cells #[.int .i64 22, .int .i64 ((nL : Int) - 1), .int .i64 0, .bool false] 34) := ⟨_, rfl⟩
  rw [← hW14]
  have k14 : Only [] w9 W14 := by rw [hW14]; exact ((Only.refl [] w9).alloc _).alloc _
  have bh : Blk W14 w9.heap.size 34 #[.int .i64 0, .int .i64 nL, .int .i64 nA, .bool false] := by rw [hW14]; exact ((Only.refl [] _).alloc _).blk (Blk.new _ _ _) (by simp)
  have bx : Blk W14 (w9.heap.size + 1) 34 #[.int .i64 22, .int .i64 ((nL : Int) - 1), .int .i64 0, .bool false] := by
    rw [hW14]
    have := Blk.new (w9.alloc (.cells #[.int .i64 0, .int .i64 nL, .int .i64 nA, .bool false] 34)) 34 #[.int .i64 22, .int .i64 ((nL : Int) - 1), .int .i64 0, .bool false]
    simpa using this
  have hgh : w9.heap.size ∉ H := fun q => absurd (hD9.lt _ q) (by omega)
  have hgx : w9.heap.size + 1 ∉ H := fun q => absurd (hD9.lt _ q) (by omega)
  have hD14 := hD9.keep0 k14
  have hSt14 := hSt9.then0 k14
  have bC14 := k14.blk bC9 (by simp)
  have bA14 := k14.blk bA9 (by simp)
  have hOwn14 := Lib.hid (own_only HOwn6.out k14 (by simp))
  have hlt6 := Lib.hid (World.ownsRow.lt HOwn6.out)
  have hz9 : w.heap.size ≤ w9.heap.size := hSt9.size
  have hlt9 := bA9.lt
  have hz14 := k14.size
  have hls14 := (k14.cell (p := ⟨rb, 0, none⟩) (hD9.lt rb hrbH) (by simp)).trans hls
  have hC14 := fun i => bC14.cell i
  clear hC9 hls hW14 bC9 bA9 HOwn6 hSt9 w1 hO1
  have hne1 := evs_one (check_evs hk H4.out)
  obtain ⟨L, hL⟩ : ∃ L, L = R.of c.stream := ⟨_, rfl⟩
  rw [← hL] at hOwn14 HnL
  have HL := Lib.hid hL
  clear hL
  have hev : ∀ j (hj : j < c.events.length), ∃ b off, A1 = some ⟨b, off, none⟩ ∧ b < W14.heap.size ∧ ∀ t, t < 4 → W14.cell? ⟨b, off + j * 4 + t, none⟩ = (c.events[j].cells)[t]? := by
    obtain ⟨A', c', e, _, _, q⟩ := (hSt14.keepS he hn).openE EventR.cells (fun _ => rfl)
    injection e with e1 e2 e3
    subst e1
    exact q
  have hel : ∀ j (hj : j < L.length), ∃ b off, A6 = some ⟨b, off, none⟩ ∧ b < W14.heap.size ∧ ∀ t, t < 8 → W14.cell? ⟨b, off + j * 8 + t, none⟩ = (L[j].cells)[t]? := by
    obtain ⟨A', c', e, _, _, q⟩ := (Slc.of_own hOwn14.out).1.openE StoredR.cells (fun _ => rfl)
    injection e with e1 e2 e3
    subst e1
    exact q
  have HEv := Lib.hid hev
  have HEl := Lib.hid hel
  clear hev hel hes hOwn14
  obtain ⟨id0, hid0⟩ : ∃ i, i = ((c.events.head?).map (·.id)).getD 0 := ⟨_, rfl⟩
  have hid1 : c.events[0].id = id0 := by
    rw [hid0]
    exact head_id c.events hne1
  have HI0 := Lib.hid hid0
  have HI1 := Lib.hid hid1
  clear hid0 hid1
  go_wp2_with fail
  go_loopw [11, 12] (fun av iv wr => ∃ (i : Nat) (f : Int), i ≤ nL ∧ iv = .int .i64 i ∧ av = .int .i64 f ∧ Hid (f = firstAt id0 (L.take i) 0) ∧ Only [] W14 wr) (fun _ iv _ => nL - (intOf iv).toNat)
  case atStart => exact ⟨0, -1, Nat.zero_le _, rfl, rfl, rfl, Only.refl _ _⟩
  case round =>
    obtain ⟨i, f, hi, rfl, rfl, hf, hO⟩ := hrel
    by_cases hlt : i < nL
    · obtain ⟨b6, o6, hA6, hb6, hc6⟩ := HEl.out i (by have := HnL.out; omega)
      obtain ⟨b1, o1, hA1, hb1, hc1⟩ := HEv.out 0 hne1
      subst hA6 hA1
      have htk : L.take (i + 1) = L.take i ++ [L[i]] := List.take_succ_eq_append_getElem (by have := HnL.out; omega)
      have hmn : (L.take i).length = i := by rw [List.length_take]; have := HnL.out; omega
      have hold : Hid (0 ≤ f → firstAt id0 (L.take (i + 1)) 0 = f) := fun q => by rw [htk, firstAt_old _ _ _ _ (by decide) (by rw [← hf.out]; exact q), ← hf.out]
      have hnew : Hid (f < 0 → firstAt id0 (L.take (i + 1)) 0 = if L[i].ev.id = id0 then (i : Int) else -1) := fun q => by rw [htk, firstAt_new _ _ _ _ (by decide) (by rw [← hf.out]; exact q), hmn, Int.zero_add]
      obtain ⟨x, hx⟩ : ∃ x, x = L[i] := ⟨_, rfl⟩
      rw [← hx] at hc6 hnew
      have hc60 : W14.cell? ⟨b6, o6 + i * 8, none⟩ = some (.int .i64 x.ev.id) := hc6 0 (by omega)
      have hc10 : W14.cell? ⟨b1, o1, none⟩ = some (.int .i64 id0) := by
        have := hc1 0 (by omega)
        rw [show o1 + 0 * 4 + 0 = o1 by omega] at this
        rw [this, ← HI1.out]
        rfl
      have C6 : ∀ (e : Nat) (os : Array Obj), World.cell? (grow (redrawn wr e) os) _ = some _ := fun e os => cell_regrown ((hO.cell (p := ⟨b6, o6 + i * 8, none⟩) hb6 (by simp)).trans hc60) e os
      have C1 : ∀ (e : Nat) (os : Array Obj), World.cell? (grow (redrawn wr e) os) _ = some _ := fun e os => cell_regrown ((hO.cell (p := ⟨b1, o1, none⟩) hb1 (by simp)).trans hc10) e os
      have CB : ∀ (e : Nat) (os : Array Obj), World.cell? (grow (redrawn wr e) os) ⟨w.heap.size, 4, none⟩ = some (.slice (some ⟨b1, o1, none⟩) c.events.length cap1) := fun e os => cell_regrown ((hO.blk bC14 (by simp)).cell 4) e os
      clear hc6 hc1 hc60 hc10 hx htk hmn
      by_cases hf0 : f < 0
      · have hfm : f = -1 := by
          rcases firstAt_bd id0 (L.take i) 0 (by decide) with q | q
          · rw [hf.out]; exact q
          · have := hf.out; omega
        have hnw := Lib.hid (hnew.out hf0)
        subst hfm
        by_cases hxi : x.ev.id = id0
        · have hnx : Hid ((i : Int) = firstAt id0 (L.take (i + 1)) 0) := by have := hnw.out; rw [if_pos hxi] at this; exact this.symm
          have hxb : (x.ev.id == id0) = true := by simpa using hxi
          clear hxi
          go_wp2_with fail
          refine wp_region_quiet_below (by kernel_rfl) (by kernel_rfl) ?_
          repeat (go_big_quiet_step (fail))
          refine wpQuiet_nil ?_
          rintro _ ⟨p, rfl⟩
          go_wp2
          go_round
          case rel => exact ⟨i + 1, i, hlt, by simp, rfl, hnx, hO.trans (Only.regrown [] _ p.d p.os)⟩
          case measure => simp [intOf]; omega
        · have hnx : Hid ((-1 : Int) = firstAt id0 (L.take (i + 1)) 0) := by have := hnw.out; rw [if_neg hxi] at this; exact this.symm
          have hxb : (x.ev.id == id0) = false := by simpa using hxi
          clear hxi
          go_wp2_with fail
          refine wp_region_quiet_below (by kernel_rfl) (by kernel_rfl) ?_
          repeat (go_big_quiet_step (fail))
          refine wpQuiet_nil ?_
          rintro _ ⟨p, rfl⟩
          go_wp2
          go_round
          case rel => exact ⟨i + 1, -1, hlt, by simp, rfl, hnx, hO.trans (Only.regrown [] _ p.d p.os)⟩
          case measure => simp [intOf]; omega
      · have hnx : Hid (f = firstAt id0 (L.take (i + 1)) 0) := (hold.out (by omega)).symm
        have hfb : decide (f < 0) = false := by simpa using hf0
        go_wp2_with fail
        refine wp_region_quiet_below (by kernel_rfl) (by kernel_rfl) ?_
        repeat (go_big_quiet_step (fail))
        refine wpQuiet_nil ?_
        rintro _ ⟨p, rfl⟩
        go_wp2
        go_round
        case rel => exact ⟨i + 1, f, hlt, by simp, rfl, hnx, hO.trans (Only.regrown [] _ p.d p.os)⟩
        case measure => simp [intOf]; omega
    · have hin : nL = i := by omega
      subst hin
      have hfL : f = firstAt id0 L 0 := by have := hf.out; rwa [List.take_of_length_le (by have := HnL.out; omega)] at this
      have hf0 : 0 ≤ f := by rw [hfL, HI0.out, HL.out, HR.out]; exact hv
      have hfl : f < nL := by
        rcases firstAt_bd id0 L 0 (by decide) with q | q
        · rw [hfL] at hf0; omega
        · have := HnL.out; rw [hfL]; omega
      obtain ⟨fn, rfl⟩ : ∃ fn : Nat, f = fn := ⟨f.toNat, by omega⟩
      have HFL := Lib.hid hfL
      have bC17 := hO.blk bC14 (by simp)
      have hC17 := fun t => bC17.cell t
      have hfn : fn < nL := by omega
      have hev8 : c.events.length ≤ 8 := by have := check_evs hk H4.out; unfold eventsE at this; (repeat (split at this; first | omega | skip)); all_goals omega
      have hw1 := IntWalk.i64_in ((fn : Int) + (c.events.length : Int)) ⟨by omega, by omega⟩
      have hw2 := IntWalk.i64_in ((fn : Int) - 1) ⟨by omega, by omega⟩
      obtain ⟨g0, hg0⟩ : ∃ g : Bool, g = (decide ((fn : Int) + (c.events.length : Int) ≤ (nL : Int)) && (decide (c.expected = -2) || decide (c.expected = -4) || decide (c.expected = (fn : Int) - 1))) := ⟨_, rfl⟩
      have HG0 := Lib.hid hg0
      clear hfL hf hfl hg0
      go_upto_region 22 with (fail)
      go_cut [13] (fun s13 wx => s13 = .bool g0 ∧ wx = wr)
      case first =>
        by_cases q1 : (fn : Int) + (c.events.length : Int) ≤ (nL : Int)
        · cases q2 : (c.expected == -2) with
          | true =>
            have hg : g0 = true := by rw [HG0.out, decide_eq_true q1, show c.expected = -2 by simpa using q2]; rfl
            have HG := Lib.hid hg
            clear hg HG0
            go_wp2_with fail
            go_meet
            exact ⟨by rw [HG.out], rfl⟩
          | false =>
            cases q3 : (c.expected == -4) with
            | true =>
              have hg : g0 = true := by rw [HG0.out, decide_eq_true q1, show c.expected = -4 by simpa using q3]; rfl
              have HG := Lib.hid hg
              clear hg HG0
              go_wp2_with fail
              go_meet
              exact ⟨by rw [HG.out], rfl⟩
            | false =>
              cases q4 : (c.expected == (fn : Int) - 1) with
              | true =>
                have hg : g0 = true := by rw [HG0.out, decide_eq_true q1, decide_eq_true (show c.expected = (fn : Int) - 1 by simpa using q4)]; simp
                have HG := Lib.hid hg
                clear hg HG0
                go_wp2_with fail
                go_meet
                exact ⟨by rw [HG.out], rfl⟩
              | false =>
                have hg : g0 = false := by
                  rw [HG0.out, decide_eq_false (show ¬ c.expected = (fn : Int) - 1 by simpa using q4), decide_eq_false (show ¬ c.expected = -2 by simpa using q2), decide_eq_false (show ¬ c.expected = -4 by simpa using q3)]
                  simp
                have HG := Lib.hid hg
                clear hg HG0
                go_wp2_with fail
                go_meet
                exact ⟨by rw [HG.out], rfl⟩
        · have hg : g0 = false := by rw [HG0.out, decide_eq_false q1]; rfl
          have HG := Lib.hid hg
          clear hg HG0
          go_wp2_with fail
          go_meet
          exact ⟨by rw [HG.out], rfl⟩
      case rest =>
        obtain ⟨rfl, rfl⟩ := hcut
        have hlen := HnL.out
        have HAct := Lib.hid (show ((g0 && idsAt c.events (L.drop fn)) = true → (r.tick c.time).act c = (⟨0, fn, ((L[((fn : Int) + (c.events.length : Int) - 1).toNat]?).map (·.position)).getD 0, true⟩, R.keep c.stream)) ∧ ((g0 && idsAt c.events (L.drop fn)) = false → (r.tick c.time).act c = (⟨22, (nL : Int) - 1, 0, false⟩, R.keep c.stream)) from by
          have hgd : RS.goodAt c L fn = (g0 && idsAt c.events (L.drop fn)) := by
            unfold RS.goodAt
            rw [HG0.out, HnL.out]
            rfl
          rw [← HR.out]
          unfold RS.act
          dsimp only
          rw [if_neg (by rw [H4.out]; decide), if_neg (by rw [H4.out]; decide), ← HL.out, ← HI0.out, ← HFL.out, if_pos (by omega), hgd]
          refine ⟨fun q => by rw [q]; rfl, fun q => by rw [q, HnL.out]; rfl⟩)
        have hwk := fun k : Nat => fun hkk : k ≤ c.events.length => IntWalk.i64_in ((fn : Int) + (k : Int)) ⟨by omega, by omega⟩
        have HWk := Lib.hid hwk
        have hw3 := IntWalk.i64_in ((fn : Int) + (c.events.length : Int) - 1) ⟨by omega, by omega⟩
        have HLen := Lib.hid hlen
        have HO := Lib.hid hO
        clear hwk hlen hC17 bC17
        go_wp2_with fail
        go_loopw [13, 14] (fun gv kv w2 => ∃ (k : Nat) (g : Bool), k ≤ c.events.length ∧ kv = .int .i64 k ∧ gv = .bool g ∧ Hid (g = (g0 && idsAt (c.events.take k) (L.drop fn))) ∧ Only [] W14 w2) (fun _ kv _ => c.events.length - (intOf kv).toNat)
        case atStart => exact ⟨0, g0, Nat.zero_le _, rfl, rfl, by unfold Hid; simp [idsAt], hO⟩
        case round =>
          obtain ⟨k, g, hkn, rfl, rfl, hg, hO2⟩ := hrel
          have bC2 := hO2.blk bC14 (by simp)
          have hC2 := fun t => bC2.cell t
          by_cases hlt2 : k < c.events.length
          · cases g with
            | true =>
              obtain ⟨hgt, hids⟩ : g0 = true ∧ idsAt (c.events.take k) (L.drop fn) = true := by
                have := hg.out
                simpa using this.symm
              have hroom : fn + c.events.length ≤ nL := by
                have := HG0.out
                rw [hgt] at this
                simp at this
                omega
              obtain ⟨b6, o6, hA6, hb6, hc6⟩ := HEl.out (fn + k) (by have := HLen.out; omega)
              obtain ⟨b1, o1, hA1, hb1, hc1⟩ := HEv.out k hlt2
              subst hA6 hA1
              have hin6 : fn + k < L.length := by have := HLen.out; omega
              have hst : Hid (idsAt (c.events.take (k + 1)) (L.drop fn) = decide (L[fn + k].ev.id = c.events[k].id)) := by
                unfold Hid
                rw [idsAt_take (x := c.events[k]) c.events (L.drop fn) k hlt2 (by rw [List.length_drop]; have := HLen.out; omega), hids, Bool.true_and, List.getElem_drop]
              obtain ⟨x, hx⟩ : ∃ x, x = L[fn + k] := ⟨_, rfl⟩
              obtain ⟨y, hy⟩ : ∃ y, y = c.events[k] := ⟨_, rfl⟩
              rw [← hx] at hc6 hst
              rw [← hy] at hc1 hst
              have hc60 : W14.cell? ⟨b6, o6 + (fn + k) * 8, none⟩ = some (.int .i64 x.ev.id) := hc6 0 (by omega)
              have hc10 : W14.cell? ⟨b1, o1 + k * 4, none⟩ = some (.int .i64 y.id) := hc1 0 (by omega)
              have C6 : ∀ (e : Nat) (os : Array Obj), World.cell? (grow (redrawn wr e) os) _ = some _ := fun e os => cell_regrown ((hO2.cell (p := ⟨b6, o6 + (fn + k) * 8, none⟩) hb6 (by simp)).trans hc60) e os
              have C1 : ∀ (e : Nat) (os : Array Obj), World.cell? (grow (redrawn wr e) os) _ = some _ := fun e os => cell_regrown ((hO2.cell (p := ⟨b1, o1 + k * 4, none⟩) hb1 (by simp)).trans hc10) e os
              have CB : ∀ (e : Nat) (os : Array Obj), World.cell? (grow (redrawn wr e) os) ⟨w.heap.size, 4, none⟩ = some (.slice (some ⟨b1, o1, none⟩) c.events.length cap1) := fun e os => cell_regrown (bC2.cell 4) e os
              have hwk := HWk.out k hkn
              have hidx : fn + k < nL := by omega
              have hidx1 : (fn : Int) + (k : Int) < (nL : Int) := by omega
              have hidx0 : ¬ (fn : Int) + (k : Int) < 0 := by omega
              have hidx2 : ((fn : Int) + (k : Int)).toNat = fn + k := by omega
              obtain ⟨g2, hg2⟩ : ∃ g2, (x.ev.id == y.id) = g2 := ⟨_, rfl⟩
              have hnx : Hid (g2 = (g0 && idsAt (c.events.take (k + 1)) (L.drop fn))) := by
                unfold Hid
                rw [hst.out, hgt, Bool.true_and, ← hg2, Bool.beq_eq_decide_eq]
              clear hc6 hc1 hc60 hc10 hx hy hids hgt hg hst bC2
              go_wp2_with fail
              refine wp_region_quiet_below (by kernel_rfl) (by kernel_rfl) ?_
              repeat (go_big_quiet_step (fail))
              refine wpQuiet_nil ?_
              rintro _ ⟨p, rfl⟩
              go_wp2
              go_round
              case rel => exact ⟨k + 1, g2, hlt2, by simp, rfl, hnx, hO2.trans (Only.regrown [] _ p.d p.os)⟩
              case measure => simp [intOf]; omega
            | false =>
              have hG : idsAt c.events (L.drop fn) = false ∨ g0 = false := by
                have := hg.out
                cases hgg : g0 with
                | false => exact .inr rfl
                | true =>
                  rw [hgg, Bool.true_and] at this
                  exact .inl (idsAt_pre _ _ k this.symm)
              have hgf : (g0 && idsAt c.events (L.drop fn)) = false := by
                rcases hG with q | q
                · rw [q]; simp
                · rw [q]; rfl
              have hFa := Lib.hid (HAct.out.2 hgf)
              have HFin : Hid ((((r.tick c.time).act c).1.val = .agg #[.int .i64 22, .int .i64 ((nL : Int) - 1), .int .i64 0, .bool false]) ∧ ((r.tick c.time).act c).2 = R.keep c.stream) := by
                unfold Hid
                rw [hFa.out]
                exact ⟨rfl, rfl⟩
              have hXc := fun t => (hO2.blk bx (by simp)).cell t
              have hHc := fun t => (hO2.blk bh (by simp)).cell t
              have hHf := fun t => (hO2.blk bh (by simp)).free t
              have hD2 := hD14.keep0 hO2
              have hSt2 := hSt14.then0 hO2
              have bh2 := hO2.blk bh (by simp)
              have bA2 := hO2.blk bA14 (by simp)
              have hsR : R.s.length + 1 ≤ 1000000 := by rw [HR.out]; show r.s.length + 1 ≤ _; omega
              clear hgf hg
              go_upto_region 50 with (fail)
              have bhW := (((bh2.set 0 (.int .i64 22)).set 1 (.int .i64 ((nL : Int) - 1))).set 2 (.int .i64 0)).set 3 (.bool false)
              have koW : Only [w9.heap.size] wr ((((wr.setCell ⟨w9.heap.size, 0, none⟩ (.int .i64 22)).setCell ⟨w9.heap.size, 1, none⟩ (.int .i64 ((nL : Int) - 1))).setCell ⟨w9.heap.size, 2, none⟩ (.int .i64 0)).setCell ⟨w9.heap.size, 3, none⟩ (.bool false)) := by
                iterate 4 (refine Only.setCell ?_ (.inl (by simp)) _)
                exact Only.refl _ _
              have bCW := koW.blk bC2 (by simp; omega)
              have bAW := koW.blk bA2 (by simp; omega)
              have hDW := hD2.keep koW (by have := h.only.size; simp; omega) (fun b hb => by simp; exact fun e => hgh (e ▸ hb))
              have hStW := (((hSt2.setB (g := w9.heap.size) (k := 0) (u := .int .i64 22) hz9).setB (g := w9.heap.size) (k := 1) (u := .int .i64 ((nL : Int) - 1)) hz9).setB (g := w9.heap.size) (k := 2) (u := .int .i64 0) hz9).setB (g := w9.heap.size) (k := 3) (u := .bool false) hz9
              obtain ⟨WW, hWW⟩ : ∃ W, W = (((wr.setCell ⟨w9.heap.size, 0, none⟩ (.int .i64 22)).setCell ⟨w9.heap.size, 1, none⟩ (.int .i64 ((nL : Int) - 1))).setCell ⟨w9.heap.size, 2, none⟩ (.int .i64 0)).setCell ⟨w9.heap.size, 3, none⟩ (.bool false) := ⟨_, rfl⟩
              rw [← hWW] at bhW koW bCW bAW hDW hStW ⊢
              clear hWW
              clear hXc hHc hHf hC2
              have HKp := Lib.hid (dkeep_any hDW c.stream (hft).few hsR ((hft).mt _) ((hft).kept _) (hft).now)
              have hCz := fun i => (bCW).cell i
              go_wp2_with fail
              refine HKp.out.mono ?_
              rintro eK wK ⟨rfl, HK, hDK, hStK⟩
              obtain ⟨bAK, gAK⟩ := hStK.keepB bAW hgA
              obtain ⟨bhK, ghK⟩ := hStK.keepB bhW hgh
              have hAKc := fun i => bAK.cell i
              have hAKf := fun i => bAK.free i
              have hhKc := fun i => bhK.cell i
              have hStT := (hStW).trans hStK
              clear HKp hCz
              rw [← HFin.out.2] at hDK
              go_wp2
              have hS4 := (((bAK.set 0 (.int .i64 22)).set 1 (.int .i64 ((nL : Int) - 1))).set 2 (.int .i64 0)).set 3 (.bool false)
              have hge : w.heap.size ≤ w.heap.size + 1 := by omega
              have hD4 := (((hDK.setB (k := 0) (u := .int .i64 22) gAK haz).setB (k := 1) (u := .int .i64 ((nL : Int) - 1)) gAK haz).setB (k := 2) (u := .int .i64 0) gAK haz).setB (k := 3) (u := .bool false) gAK haz
              have hSt4 := (((hStT.setB (k := 0) (u := .int .i64 22) hge).setB (k := 1) (u := .int .i64 ((nL : Int) - 1)) hge).setB (k := 2) (u := .int .i64 0) hge).setB (k := 3) (u := .bool false) hge
              have hc4 := hS4.cell
              refine bodyPost_ret (v := .agg #[.int .i64 22, .int .i64 ((nL : Int) - 1), .int .i64 0, .bool false]) (by simp [results, Tryz.results10, go_sem, hc4]) rfl ⟨?ans, _, hD4, hSt4⟩
              case ans => rw [HFin.out.1]
          · have hkn2 : k = c.events.length := by omega
            have hgk : g = (g0 && idsAt c.events (L.drop fn)) := by have := hg.out; rwa [List.take_of_length_le (by omega)] at this
            cases g with
            | false =>
              have hgf : (g0 && idsAt c.events (L.drop fn)) = false := hgk.symm
              have hkge : ¬ (k : Int) < (c.events.length : Int) := by omega
              clear hgk hkn2
              have hFa := Lib.hid (HAct.out.2 hgf)
              have HFin : Hid ((((r.tick c.time).act c).1.val = .agg #[.int .i64 22, .int .i64 ((nL : Int) - 1), .int .i64 0, .bool false]) ∧ ((r.tick c.time).act c).2 = R.keep c.stream) := by
                unfold Hid
                rw [hFa.out]
                exact ⟨rfl, rfl⟩
              have hXc := fun t => (hO2.blk bx (by simp)).cell t
              have hHc := fun t => (hO2.blk bh (by simp)).cell t
              have hHf := fun t => (hO2.blk bh (by simp)).free t
              have hD2 := hD14.keep0 hO2
              have hSt2 := hSt14.then0 hO2
              have bh2 := hO2.blk bh (by simp)
              have bA2 := hO2.blk bA14 (by simp)
              have hsR : R.s.length + 1 ≤ 1000000 := by rw [HR.out]; show r.s.length + 1 ≤ _; omega
              clear hgf hg
              go_upto_region 50 with (fail)
              have bhW := (((bh2.set 0 (.int .i64 22)).set 1 (.int .i64 ((nL : Int) - 1))).set 2 (.int .i64 0)).set 3 (.bool false)
              have koW : Only [w9.heap.size] wr ((((wr.setCell ⟨w9.heap.size, 0, none⟩ (.int .i64 22)).setCell ⟨w9.heap.size, 1, none⟩ (.int .i64 ((nL : Int) - 1))).setCell ⟨w9.heap.size, 2, none⟩ (.int .i64 0)).setCell ⟨w9.heap.size, 3, none⟩ (.bool false)) := by
                iterate 4 (refine Only.setCell ?_ (.inl (by simp)) _)
                exact Only.refl _ _
              have bCW := koW.blk bC2 (by simp; omega)
              have bAW := koW.blk bA2 (by simp; omega)
              have hDW := hD2.keep koW (by have := h.only.size; simp; omega) (fun b hb => by simp; exact fun e => hgh (e ▸ hb))
              have hStW := (((hSt2.setB (g := w9.heap.size) (k := 0) (u := .int .i64 22) hz9).setB (g := w9.heap.size) (k := 1) (u := .int .i64 ((nL : Int) - 1)) hz9).setB (g := w9.heap.size) (k := 2) (u := .int .i64 0) hz9).setB (g := w9.heap.size) (k := 3) (u := .bool false) hz9
              obtain ⟨WW, hWW⟩ : ∃ W, W = (((wr.setCell ⟨w9.heap.size, 0, none⟩ (.int .i64 22)).setCell ⟨w9.heap.size, 1, none⟩ (.int .i64 ((nL : Int) - 1))).setCell ⟨w9.heap.size, 2, none⟩ (.int .i64 0)).setCell ⟨w9.heap.size, 3, none⟩ (.bool false) := ⟨_, rfl⟩
              rw [← hWW] at bhW koW bCW bAW hDW hStW ⊢
              clear hWW
              clear hXc hHc hHf hC2
              have HKp := Lib.hid (dkeep_any hDW c.stream (hft).few hsR ((hft).mt _) ((hft).kept _) (hft).now)
              have hCz := fun i => (bCW).cell i
              go_wp2_with fail
              refine HKp.out.mono ?_
              rintro eK wK ⟨rfl, HK, hDK, hStK⟩
              obtain ⟨bAK, gAK⟩ := hStK.keepB bAW hgA
              obtain ⟨bhK, ghK⟩ := hStK.keepB bhW hgh
              have hAKc := fun i => bAK.cell i
              have hAKf := fun i => bAK.free i
              have hhKc := fun i => bhK.cell i
              have hStT := (hStW).trans hStK
              clear HKp hCz
              rw [← HFin.out.2] at hDK
              go_wp2
              have hS4 := (((bAK.set 0 (.int .i64 22)).set 1 (.int .i64 ((nL : Int) - 1))).set 2 (.int .i64 0)).set 3 (.bool false)
              have hge : w.heap.size ≤ w.heap.size + 1 := by omega
              have hD4 := (((hDK.setB (k := 0) (u := .int .i64 22) gAK haz).setB (k := 1) (u := .int .i64 ((nL : Int) - 1)) gAK haz).setB (k := 2) (u := .int .i64 0) gAK haz).setB (k := 3) (u := .bool false) gAK haz
              have hSt4 := (((hStT.setB (k := 0) (u := .int .i64 22) hge).setB (k := 1) (u := .int .i64 ((nL : Int) - 1)) hge).setB (k := 2) (u := .int .i64 0) hge).setB (k := 3) (u := .bool false) hge
              have hc4 := hS4.cell
              refine bodyPost_ret (v := .agg #[.int .i64 22, .int .i64 ((nL : Int) - 1), .int .i64 0, .bool false]) (by simp [results, Tryz.results10, go_sem, hc4]) rfl ⟨?ans, _, hD4, hSt4⟩
              case ans => rw [HFin.out.1]
            | true =>
              have hgf : (g0 && idsAt c.events (L.drop fn)) = true := hgk.symm
              obtain ⟨hgt, -⟩ : g0 = true ∧ idsAt c.events (L.drop fn) = true := by simpa using hgf
              have hroom : fn + c.events.length ≤ nL := by
                have := HG0.out
                rw [hgt] at this
                simp at this
                omega
              have hin6 : fn + c.events.length - 1 < L.length := by have := HLen.out; omega
              obtain ⟨b6, o6, hA6, hb6, hc6⟩ := HEl.out (fn + c.events.length - 1) hin6
              subst hA6
              have hb69 := (hlt6.out b6 rfl).2
              obtain ⟨x, hx⟩ : ∃ x, x = L[fn + c.events.length - 1] := ⟨_, rfl⟩
              rw [← hx] at hc6
              have hFa := Lib.hid (HAct.out.1 hgf)
              have HFin : Hid ((((r.tick c.time).act c).1.val = .agg #[.int .i64 0, .int .i64 fn, .int .i64 x.position, .bool true]) ∧ ((r.tick c.time).act c).2 = R.keep c.stream) := by
                unfold Hid
                rw [hFa.out]
                refine ⟨?_, rfl⟩
                rw [show ((fn : Int) + (c.events.length : Int) - 1).toNat = fn + c.events.length - 1 by omega, List.getElem?_eq_getElem hin6, ← hx]
                rfl
              have hXc := fun t => (hO2.blk bx (by simp)).cell t
              have hHc := fun t => (hO2.blk bh (by simp)).cell t
              have hHf := fun t => (hO2.blk bh (by simp)).free t
              have hD2 := hD14.keep0 hO2
              have hSt2 := hSt14.then0 hO2
              have bh2 := hO2.blk bh (by simp)
              have bA2 := hO2.blk bA14 (by simp)
              have hc66 : W14.cell? ⟨b6, o6 + (fn + c.events.length - 1) * 8 + 6, none⟩ = some (.int .i64 x.position) := hc6 6 (by omega)
              have hd6 := (hO2.cell (p := ⟨b6, o6 + (fn + c.events.length - 1) * 8 + 6, none⟩) hb6 (by simp)).trans hc66
              have hsR : R.s.length + 1 ≤ 1000000 := by rw [HR.out]; show r.s.length + 1 ≤ _; omega
              have hkge : ¬ (k : Int) < (c.events.length : Int) := by omega
              clear hc6 hc66 hx hgk hgf hgt hg hkn2
              go_upto_region 28 with (fail)
              have bhW := (((bh2.set 0 (.int .i64 22)).set 1 (.int .i64 ((nL : Int) - 1))).set 2 (.int .i64 0)).set 3 (.bool false)
              have koW : Only [w9.heap.size] wr ((((wr.setCell ⟨w9.heap.size, 0, none⟩ (.int .i64 22)).setCell ⟨w9.heap.size, 1, none⟩ (.int .i64 ((nL : Int) - 1))).setCell ⟨w9.heap.size, 2, none⟩ (.int .i64 0)).setCell ⟨w9.heap.size, 3, none⟩ (.bool false)) := by
                iterate 4 (refine Only.setCell ?_ (.inl (by simp)) _)
                exact Only.refl _ _
              have bCW := koW.blk bC2 (by simp; omega)
              have bAW := koW.blk bA2 (by simp; omega)
              have hDW := hD2.keep koW (by have := h.only.size; simp; omega) (fun b hb => by simp; exact fun e => hgh (e ▸ hb))
              have hStW := (((hSt2.setB (g := w9.heap.size) (k := 0) (u := .int .i64 22) hz9).setB (g := w9.heap.size) (k := 1) (u := .int .i64 ((nL : Int) - 1)) hz9).setB (g := w9.heap.size) (k := 2) (u := .int .i64 0) hz9).setB (g := w9.heap.size) (k := 3) (u := .bool false) hz9
              obtain ⟨WW, hWW⟩ : ∃ W, W = (((wr.setCell ⟨w9.heap.size, 0, none⟩ (.int .i64 22)).setCell ⟨w9.heap.size, 1, none⟩ (.int .i64 ((nL : Int) - 1))).setCell ⟨w9.heap.size, 2, none⟩ (.int .i64 0)).setCell ⟨w9.heap.size, 3, none⟩ (.bool false) := ⟨_, rfl⟩
              rw [← hWW] at bhW koW bCW bAW hDW hStW ⊢
              clear hWW
              have hd7 := (koW.cell (p := ⟨b6, o6 + (fn + c.events.length - 1) * 8 + 6, none⟩) (by have := hO2.size; show b6 < _; omega) (by simp; omega)).trans hd6
              have hCW := fun t => bCW.cell t
              have hHW := fun t => bhW.cell t
              have hHWf := fun t => bhW.free t
              have hidx1 : (fn : Int) + (c.events.length : Int) - 1 < (nL : Int) := by omega
              have hidx0 : ¬ (fn : Int) + (c.events.length : Int) - 1 < 0 := by omega
              have hidx2 : ((fn : Int) + (c.events.length : Int) - 1).toNat = fn + c.events.length - 1 := by omega
              clear hXc hHc hHf hd6 hC2
              go_upto_region 50 with (fail)
              have bhW := (((bhW.set 0 (.int .i64 0)).set 1 (.int .i64 fn)).set 2 (.int .i64 x.position)).set 3 (.bool true)
              have koW : Only [w9.heap.size] WW ((((WW.setCell ⟨w9.heap.size, 0, none⟩ (.int .i64 0)).setCell ⟨w9.heap.size, 1, none⟩ (.int .i64 fn)).setCell ⟨w9.heap.size, 2, none⟩ (.int .i64 x.position)).setCell ⟨w9.heap.size, 3, none⟩ (.bool true)) := by
                iterate 4 (refine Only.setCell ?_ (.inl (by simp)) _)
                exact Only.refl _ _
              have bCW := koW.blk bCW (by simp; omega)
              have bAW := koW.blk bAW (by simp; omega)
              have hDW := hDW.keep koW (by have := h.only.size; simp; omega) (fun b hb => by simp; exact fun e => hgh (e ▸ hb))
              have hStW := (((hStW.setB (g := w9.heap.size) (k := 0) (u := .int .i64 0) hz9).setB (g := w9.heap.size) (k := 1) (u := .int .i64 fn) hz9).setB (g := w9.heap.size) (k := 2) (u := .int .i64 x.position) hz9).setB (g := w9.heap.size) (k := 3) (u := .bool true) hz9
              obtain ⟨WW, hWW⟩ : ∃ W, W = (((WW.setCell ⟨w9.heap.size, 0, none⟩ (.int .i64 0)).setCell ⟨w9.heap.size, 1, none⟩ (.int .i64 fn)).setCell ⟨w9.heap.size, 2, none⟩ (.int .i64 x.position)).setCell ⟨w9.heap.size, 3, none⟩ (.bool true) := ⟨_, rfl⟩
              rw [← hWW] at bhW koW bCW bAW hDW hStW ⊢
              clear hWW
              clear hCW hHW hHWf hd7
              have HKp := Lib.hid (dkeep_any hDW c.stream (hft).few hsR ((hft).mt _) ((hft).kept _) (hft).now)
              have hCz := fun i => (bCW).cell i
              go_wp2_with fail
              refine HKp.out.mono ?_
              rintro eK wK ⟨rfl, HK, hDK, hStK⟩
              obtain ⟨bAK, gAK⟩ := hStK.keepB bAW hgA
              obtain ⟨bhK, ghK⟩ := hStK.keepB bhW hgh
              have hAKc := fun i => bAK.cell i
              have hAKf := fun i => bAK.free i
              have hhKc := fun i => bhK.cell i
              have hStT := (hStW).trans hStK
              clear HKp hCz
              rw [← HFin.out.2] at hDK
              go_wp2
              have hS4 := (((bAK.set 0 (.int .i64 0)).set 1 (.int .i64 fn)).set 2 (.int .i64 x.position)).set 3 (.bool true)
              have hge : w.heap.size ≤ w.heap.size + 1 := by omega
              have hD4 := (((hDK.setB (k := 0) (u := .int .i64 0) gAK haz).setB (k := 1) (u := .int .i64 fn) gAK haz).setB (k := 2) (u := .int .i64 x.position) gAK haz).setB (k := 3) (u := .bool true) gAK haz
              have hSt4 := (((hStT.setB (k := 0) (u := .int .i64 0) hge).setB (k := 1) (u := .int .i64 fn) hge).setB (k := 2) (u := .int .i64 x.position) hge).setB (k := 3) (u := .bool true) hge
              have hc4 := hS4.cell
              refine bodyPost_ret (v := .agg #[.int .i64 0, .int .i64 fn, .int .i64 x.position, .bool true]) (by simp [results, Tryz.results10, go_sem, hc4]) rfl ⟨?ans, _, hD4, hSt4⟩
              case ans => rw [HFin.out.1]
end
end
section
open Go Go.RowKit Go.Sort
section
variable {a w : World} {H : List Nat} {rb : Nat} {r : RS}
set_option maxRecDepth 100000 in
set_option maxHeartbeats 4000000 in
theorem ddo_app2 (h : HasD a w H rb r) (hf : r.Fine) (hs : r.s.length + 3 ≤ 1000000) (hdb : 0 ≤ r.done ∧ r.done ≤ 1000000000) (c : Cmd) (v : Value) (he : Slc w 4 v c.events.length (c.events.flatMap EventR.cells)) (hn : ∀ g, v.ownBlock = some g → g ∉ H) (ho : CmdOk c) (hk : c.check = 0) (h4 : c.kind = 1) (hd : (r.get c.stream).deleted = false)
    (hlm : r.l.length + c.events.length ≤ 1000000) (hv : ¬ 0 ≤ firstAt (((c.events.head?).map (·.id)).getD 0) (r.of c.stream) 0) :
    Calls Tryz.prog 10 #[.pointer (some ⟨rb, 0, none⟩), c.val v] w fun e w' => e = .returned ((r.tick c.time).act c).1.val ∧ DTo a w H rb ((r.tick c.time).act c).2 w' := by
  have hsf := stF
  have HV := Lib.hid hv
  clear hv
  have hb2 : (c.kind == 2) = false := by rw [beq_eq_false_iff_ne]; omega
  have hb3 : (c.kind == 3) = false := by rw [beq_eq_false_iff_ne]; omega
  have hlt4 : c.kind < 4 := by omega
  have H4 := Lib.hid h4
  clear h4
  have hft := hf.tick (check_kind hk).2.2
  obtain ⟨A1, cap1, hev, hn3, hn4, hes⟩ := he.openE EventR.cells (fun _ => rfl)
  unfold maxLen at hn4
  subst hev
  have HCk := Lib.hid (fun (W : World) (hw : Only [] w W) => show Calls Tryz.prog 25 #[.agg #[.int .i64 c.kind, .int .i64 c.time, .string c.stream, .int .i64 c.expected, .slice A1 c.events.length cap1, .int .i64 c.mt.maxCount, .int .i64 c.mt.maxAge, .int .i64 c.mt.before]] W fun e w' => e = .returned (.int .i64 c.check) ∧ Only [] W w' from r7check_any c _ W (he.only0 hw) ho)
  have h2 : ∀ o1 o2, Only [] w ((w.alloc o1).alloc o2) := fun o1 o2 => ((Only.refl [] w).alloc o1).alloc o2
  have kC : ∀ cs t o2, Blk ((w.alloc (.cells cs t)).alloc o2) w.heap.size t cs := fun cs t o2 => ((Only.refl [] _).alloc o2).blk (Blk.new w t cs) (by simp)
  have kA : ∀ cs t o1, Blk ((w.alloc o1).alloc (.cells cs t)) (w.heap.size + 1) t cs := fun cs t o1 => by
    have := Blk.new (w.alloc o1) t cs
    simpa using this
  rw [show c.val (.slice A1 c.events.length cap1) = .agg #[.int .i64 c.kind, .int .i64 c.time, .string c.stream, .int .i64 c.expected, .slice A1 c.events.length cap1, .int .i64 c.mt.maxCount, .int .i64 c.mt.maxAge, .int .i64 c.mt.before] from rfl]
  rw [hk] at HCk
  have hHl := h.lt
  have hfd3 := fldD3
  go_enter Tryz.func10, Tryz.ntmps10
  go_wp2_with fail
  refine (HCk.out _ (h2 _ _)).mono ?_
  rintro e1 w1 ⟨rfl, k1⟩
  go_wp2_with fail
  have hO1 : Only [] w w1 := (h2 _ _).trans k1
  have bC1 := k1.blk (kC _ _ _) (by simp)
  have bA1 := k1.blk (kA _ _ _) (by simp)
  have hD1 := h.keep0 hO1
  obtain ⟨M2, M3, X2, X3⟩ := hD1.nums
  have hrbH := h.rbH
  have hrbl := h.lt rb hrbH
  obtain ⟨t, ht⟩ : ∃ t, t = max r.now c.time := ⟨_, rfl⟩
  have hmx : (if r.now < c.time then c.time else r.now) = t := by rw [ht]; split <;> omega
  have hmy : (if c.time > r.now then c.time else r.now) = t := hmx
  have HTt := Lib.hid ht
  clear ht
  have C1 := Within.cell (S := []) (bC1.cell 1) (by simp)
  have D2 := Within.cell (S := []) M2 (by simp)
  have D3 := Within.cell (S := []) M3 (by simp)
  refine wp_region_in [] [0, 1, 2, 3, 4, 5, 6, 7, 8, 9] [] [10] (by kernel_rfl) (by kernel_rfl) (by intro c d u a w h; cases d <;> exact h) ?_
  show wpQuiet _ _ _ _ [_, _, _, _, _, _, _, _, _, _] _
  repeat (go_big_quiet_step (fail))
  refine wpQuiet_nil ?_
  have N2 := M2
  have N3 := M3
  have Y2 := X2
  have Y3 := X3
  clear C1 D2 D3
  show wpList _ _ _ [_] _ _
  have hne1 : w.heap.size ≠ rb := by omega
  have hne2 : w.heap.size + 1 ≠ rb := by omega
  have hdn := IntWalk.i64_in (r.done + 1) ⟨by omega, by omega⟩
  go_upto_region 6 with (fail)
  have hSt1 : Stepped w w1 H H := Stepped.first0 hO1 (Stepped.refl _ _)
  have q2 := hD1.setNow (max r.now c.time)
  have q3 := q2.1.setDone (r.done + 1)
  have hD5 := q3.1.keep0 (Only.refl [] _).drew
  have hS5 := (q2.2.trans q3.2).then0 (Only.refl [] _).drew
  have hgC : w.heap.size ∉ H := fun q => by have := hHl _ q; omega
  have hgA : w.heap.size + 1 ∉ H := fun q => by have := hHl _ q; omega
  have haz : a.heap.size ≤ w.heap.size + 1 := by have := h.only.size; omega
  have bC5 := (hS5.keepB bC1 hgC).1
  have bA5 := (hS5.keepB bA1 hgA).1
  have hSt5 := hSt1.trans hS5
  obtain ⟨W5, hW5⟩ : ∃ W, W = ((w1.setCell ⟨rb, 2, none⟩ (.int .i64 (max r.now c.time))).setCell ⟨rb, 3, none⟩ (.int .i64 (r.done + 1))).drew := ⟨_, rfl⟩
  rw [← hW5] at hD5 hS5 bC5 bA5 hSt5 ⊢
  rw [show ({ ({ r with now := max r.now c.time } : RS) with done := r.done + 1 } : RS) = r.tick c.time from rfl] at hD5
  clear hW5 q2 q3 hS5 hSt1 M2 M3 X2 X3 N2 N3 Y2 Y3 bC1 bA1 hmx hmy HTt hD1 k1
  have HGt := dget_any hD5 c.stream
  unfold DStr.val at HGt
  rw [show ((r.tick c.time).get c.stream).deleted = false from hd] at HGt
  have HG := Lib.hid HGt
  have HOf := Lib.hid (fun (W : World) (k : Only [] W5 W) => dof_any (hD5.keep0 k) hft.few c.stream)
  have hC5 := fun i => bC5.cell i
  clear HGt
  go_wp2_with fail
  refine HG.out.mono ?_
  rintro e2 w8 ⟨rfl, k8⟩
  have bC8 := k8.blk bC5 (by simp)
  have hC8 := fun i => bC8.cell i
  clear HG hC5
  go_wp2_with fail
  refine (HOf.out _ k8).mono ?_
  rintro e3 w9 ⟨v6, rfl, hown6, k9⟩
  obtain ⟨A6, c6, rfl, hn6, hm6⟩ := own_form hown6
  unfold maxLen at hm6
  have hk9 := k8.trans k9
  have hD9 := hD5.keep0 hk9
  have hSt9 := hSt5.then0 hk9
  have bC9 := hk9.blk bC5 (by simp)
  have bA9 := hk9.blk bA5 (by simp)
  obtain ⟨Al, cl, hls, hl1, hl2⟩ := hD9.ls
  have hlf := hft.few
  have hofl : ((r.tick c.time).of c.stream).length ≤ 1000000 := Nat.le_trans (List.length_filter_le _ _) hft.few
  obtain ⟨R, hR⟩ : ∃ R, R = r.tick c.time := ⟨_, rfl⟩
  rw [← hR] at hown6 hn6 hofl hD9 hls hl1 hlf hft ⊢
  have HR := Lib.hid hR
  clear HOf hC8 bC5 bA5 bC8 hD5 hSt5 hk9 k8 k9 hR hf hd HCk
  have hC9 := fun i => bC9.cell i
  have hwm := IntWalk.i64_in (((R.of c.stream).length : Int) - 1) ⟨by omega, by omega⟩
  obtain ⟨nL, hnL⟩ : ∃ n, n = (R.of c.stream).length := ⟨_, rfl⟩
  obtain ⟨nA, hnA⟩ : ∃ n, n = R.l.length := ⟨_, rfl⟩
  rw [← hnL] at hn6 hofl hwm ⊢
  rw [← hnA] at hls hl1 hlf
  have HnL := Lib.hid hnL
  have HnA := Lib.hid hnA
  have HOwn6 := Lib.hid hown6
  clear hnL hnA hown6
  go_upto_region 14 with (fail)
  obtain ⟨W14, hW14⟩ : ∃ W, W = (w9.alloc (.cells #[.int .i64 0, .int .i64 nL, .int .i64 nA, .bool false] 34)).alloc (.cells #[.int .i64 22, .int .i64 ((nL : Int) - 1), .int .i64 0, .bool false] 34) := ⟨_, rfl⟩
  rw [← hW14]
  have k14 : Only [] w9 W14 := by rw [hW14]; exact ((Only.refl [] w9).alloc _).alloc _
  have bh : Blk W14 w9.heap.size 34 #[.int .i64 0, .int .i64 nL, .int .i64 nA, .bool false] := by rw [hW14]; exact ((Only.refl [] _).alloc _).blk (Blk.new _ _ _) (by simp)
  have bx : Blk W14 (w9.heap.size + 1) 34 #[.int .i64 22, .int .i64 ((nL : Int) - 1), .int .i64 0, .bool false] := by
    rw [hW14]
    have := Blk.new (w9.alloc (.cells #[.int .i64 0, .int .i64 nL, .int .i64 nA, .bool false] 34)) 34 #[.int .i64 22, .int .i64 ((nL : Int) - 1), .int .i64 0, .bool false]
    simpa using this
  have hgh : w9.heap.size ∉ H := fun q => absurd (hD9.lt _ q) (by omega)
  have hgx : w9.heap.size + 1 ∉ H := fun q => absurd (hD9.lt _ q) (by omega)
  have hD14 := hD9.keep0 k14
  have hSt14 := hSt9.then0 k14
  have bC14 := k14.blk bC9 (by simp)
  have bA14 := k14.blk bA9 (by simp)
  have hOwn14 := Lib.hid (own_only HOwn6.out k14 (by simp))
  have hlt6 := Lib.hid (World.ownsRow.lt HOwn6.out)
  have hz9 : w.heap.size ≤ w9.heap.size := hSt9.size
  have hlt9 := bA9.lt
  have hz14 := k14.size
  have hls14 := (k14.cell (p := ⟨rb, 0, none⟩) (hD9.lt rb hrbH) (by simp)).trans hls
  have hC14 := fun i => bC14.cell i
  clear hC9 hls hW14 bC9 bA9 HOwn6 hSt9 w1 hO1
  have hne1 := evs_one (check_evs hk H4.out)
  obtain ⟨L, hL⟩ : ∃ L, L = R.of c.stream := ⟨_, rfl⟩
  rw [← hL] at hOwn14 HnL
  have HL := Lib.hid hL
  clear hL
  have hev : ∀ j (hj : j < c.events.length), ∃ b off, A1 = some ⟨b, off, none⟩ ∧ b < W14.heap.size ∧ ∀ t, t < 4 → W14.cell? ⟨b, off + j * 4 + t, none⟩ = (c.events[j].cells)[t]? := by
    obtain ⟨A', c', e, _, _, q⟩ := (hSt14.keepS he hn).openE EventR.cells (fun _ => rfl)
    injection e with e1 e2 e3
    subst e1
    exact q
  have hel : ∀ j (hj : j < L.length), ∃ b off, A6 = some ⟨b, off, none⟩ ∧ b < W14.heap.size ∧ ∀ t, t < 8 → W14.cell? ⟨b, off + j * 8 + t, none⟩ = (L[j].cells)[t]? := by
    obtain ⟨A', c', e, _, _, q⟩ := (Slc.of_own hOwn14.out).1.openE StoredR.cells (fun _ => rfl)
    injection e with e1 e2 e3
    subst e1
    exact q
  have HEv := Lib.hid hev
  have HEl := Lib.hid hel
  clear hev hel hes hOwn14
  obtain ⟨id0, hid0⟩ : ∃ i, i = ((c.events.head?).map (·.id)).getD 0 := ⟨_, rfl⟩
  have hid1 : c.events[0].id = id0 := by
    rw [hid0]
    exact head_id c.events hne1
  have HI0 := Lib.hid hid0
  have HI1 := Lib.hid hid1
  clear hid0 hid1
  go_wp2_with fail
  go_loopw [11, 12] (fun av iv wr => ∃ (i : Nat) (f : Int), i ≤ nL ∧ iv = .int .i64 i ∧ av = .int .i64 f ∧ Hid (f = firstAt id0 (L.take i) 0) ∧ Only [] W14 wr) (fun _ iv _ => nL - (intOf iv).toNat)
  case atStart => exact ⟨0, -1, Nat.zero_le _, rfl, rfl, rfl, Only.refl _ _⟩
  case round =>
    obtain ⟨i, f, hi, rfl, rfl, hf, hO⟩ := hrel
    by_cases hlt : i < nL
    · obtain ⟨b6, o6, hA6, hb6, hc6⟩ := HEl.out i (by have := HnL.out; omega)
      obtain ⟨b1, o1, hA1, hb1, hc1⟩ := HEv.out 0 hne1
      subst hA6 hA1
      have htk : L.take (i + 1) = L.take i ++ [L[i]] := List.take_succ_eq_append_getElem (by have := HnL.out; omega)
      have hmn : (L.take i).length = i := by rw [List.length_take]; have := HnL.out; omega
      have hold : Hid (0 ≤ f → firstAt id0 (L.take (i + 1)) 0 = f) := fun q => by rw [htk, firstAt_old _ _ _ _ (by decide) (by rw [← hf.out]; exact q), ← hf.out]
      have hnew : Hid (f < 0 → firstAt id0 (L.take (i + 1)) 0 = if L[i].ev.id = id0 then (i : Int) else -1) := fun q => by rw [htk, firstAt_new _ _ _ _ (by decide) (by rw [← hf.out]; exact q), hmn, Int.zero_add]
      obtain ⟨x, hx⟩ : ∃ x, x = L[i] := ⟨_, rfl⟩
      rw [← hx] at hc6 hnew
      have hc60 : W14.cell? ⟨b6, o6 + i * 8, none⟩ = some (.int .i64 x.ev.id) := hc6 0 (by omega)
      have hc10 : W14.cell? ⟨b1, o1, none⟩ = some (.int .i64 id0) := by
        have := hc1 0 (by omega)
        rw [show o1 + 0 * 4 + 0 = o1 by omega] at this
        rw [this, ← HI1.out]
        rfl
      have C6 : ∀ (e : Nat) (os : Array Obj), World.cell? (grow (redrawn wr e) os) _ = some _ := fun e os => cell_regrown ((hO.cell (p := ⟨b6, o6 + i * 8, none⟩) hb6 (by simp)).trans hc60) e os
      have C1 : ∀ (e : Nat) (os : Array Obj), World.cell? (grow (redrawn wr e) os) _ = some _ := fun e os => cell_regrown ((hO.cell (p := ⟨b1, o1, none⟩) hb1 (by simp)).trans hc10) e os
      have CB : ∀ (e : Nat) (os : Array Obj), World.cell? (grow (redrawn wr e) os) ⟨w.heap.size, 4, none⟩ = some (.slice (some ⟨b1, o1, none⟩) c.events.length cap1) := fun e os => cell_regrown ((hO.blk bC14 (by simp)).cell 4) e os
      clear hc6 hc1 hc60 hc10 hx htk hmn
      by_cases hf0 : f < 0
      · have hfm : f = -1 := by
          rcases firstAt_bd id0 (L.take i) 0 (by decide) with q | q
          · rw [hf.out]; exact q
          · have := hf.out; omega
        have hnw := Lib.hid (hnew.out hf0)
        subst hfm
        by_cases hxi : x.ev.id = id0
        · have hnx : Hid ((i : Int) = firstAt id0 (L.take (i + 1)) 0) := by have := hnw.out; rw [if_pos hxi] at this; exact this.symm
          have hxb : (x.ev.id == id0) = true := by simpa using hxi
          clear hxi
          go_wp2_with fail
          refine wp_region_quiet_below (by kernel_rfl) (by kernel_rfl) ?_
          repeat (go_big_quiet_step (fail))
          refine wpQuiet_nil ?_
          rintro _ ⟨p, rfl⟩
          go_wp2
          go_round
          case rel => exact ⟨i + 1, i, hlt, by simp, rfl, hnx, hO.trans (Only.regrown [] _ p.d p.os)⟩
          case measure => simp [intOf]; omega
        · have hnx : Hid ((-1 : Int) = firstAt id0 (L.take (i + 1)) 0) := by have := hnw.out; rw [if_neg hxi] at this; exact this.symm
          have hxb : (x.ev.id == id0) = false := by simpa using hxi
          clear hxi
          go_wp2_with fail
          refine wp_region_quiet_below (by kernel_rfl) (by kernel_rfl) ?_
          repeat (go_big_quiet_step (fail))
          refine wpQuiet_nil ?_
          rintro _ ⟨p, rfl⟩
          go_wp2
          go_round
          case rel => exact ⟨i + 1, -1, hlt, by simp, rfl, hnx, hO.trans (Only.regrown [] _ p.d p.os)⟩
          case measure => simp [intOf]; omega
      · have hnx : Hid (f = firstAt id0 (L.take (i + 1)) 0) := (hold.out (by omega)).symm
        have hfb : decide (f < 0) = false := by simpa using hf0
        go_wp2_with fail
        refine wp_region_quiet_below (by kernel_rfl) (by kernel_rfl) ?_
        repeat (go_big_quiet_step (fail))
        refine wpQuiet_nil ?_
        rintro _ ⟨p, rfl⟩
        go_wp2
        go_round
        case rel => exact ⟨i + 1, f, hlt, by simp, rfl, hnx, hO.trans (Only.regrown [] _ p.d p.os)⟩
        case measure => simp [intOf]; omega
    · have hin : nL = i := by omega
      subst hin
      have hfL : f = firstAt id0 L 0 := by have := hf.out; rwa [List.take_of_length_le (by have := HnL.out; omega)] at this
      have hfm : f = -1 := by
        rcases firstAt_bd id0 L 0 (by decide) with q | q
        · rw [hfL]; exact q
        · exact absurd (by have := q.1; rwa [HI0.out, HL.out, HR.out] at this) (Int.not_le.2 HV.out)
      subst hfm
      have HFL := Lib.hid hfL
      have bC17 := hO.blk bC14 (by simp)
      have hC17 := fun t => bC17.cell t
      have hev8 : c.events.length ≤ 8 := by have := check_evs hk H4.out; unfold eventsE at this; (repeat (split at this; first | omega | skip)); all_goals omega
      have HFt := Lib.hid (fun (W : World) => dfits_any c.expected nL W (by omega))
      have hsR : R.s.length + 1 ≤ 1000000 := by rw [HR.out]; show r.s.length + 1 ≤ _; omega
      have HAct := Lib.hid (show (r.tick c.time).act c = if fitsD c.expected nL = false then (⟨22, (nL : Int) - 1, 0, false⟩, R.keep c.stream) else (⟨0, nL, (nA : Int) + c.events.length - 1, false⟩, ({ R with l := R.l ++ storedOf c.stream R.now c.events nL nA } : RS).keep c.stream) from by
        rw [← HR.out]
        unfold RS.act
        dsimp only
        rw [if_neg (by rw [H4.out]; decide), if_neg (by rw [H4.out]; decide), ← HL.out, ← HI0.out, ← HFL.out, if_neg (by decide), HnL.out, HnA.out]
        rfl)
      clear hfL hf
      cases hq : fitsD c.expected nL with
      | false =>
        rw [hq] at HFt HAct
        have HFin : Hid ((((r.tick c.time).act c).1.val = .agg #[.int .i64 22, .int .i64 ((nL : Int) - 1), .int .i64 0, .bool false]) ∧ ((r.tick c.time).act c).2 = R.keep c.stream) := by
          unfold Hid
          rw [HAct.out, if_pos rfl]
          exact ⟨rfl, rfl⟩
        have hXc := fun t => (hO.blk bx (by simp)).cell t
        have hHc := fun t => (hO.blk bh (by simp)).cell t
        have hHf := fun t => (hO.blk bh (by simp)).free t
        have hD2 := hD14.keep0 hO
        have hSt2 := hSt14.then0 hO
        have bh2 := hO.blk bh (by simp)
        have bA2 := hO.blk bA14 (by simp)
        go_upto_region 50 with (go_at_call 30; refine (HFt.out _).mono ?_; rintro e15 w15 ⟨rfl, rfl⟩)
        have bhW := (((bh2.set 0 (.int .i64 22)).set 1 (.int .i64 ((nL : Int) - 1))).set 2 (.int .i64 0)).set 3 (.bool false)
        have koW : Only [w9.heap.size] wr ((((wr.setCell ⟨w9.heap.size, 0, none⟩ (.int .i64 22)).setCell ⟨w9.heap.size, 1, none⟩ (.int .i64 ((nL : Int) - 1))).setCell ⟨w9.heap.size, 2, none⟩ (.int .i64 0)).setCell ⟨w9.heap.size, 3, none⟩ (.bool false)) := by
          iterate 4 (refine Only.setCell ?_ (.inl (by simp)) _)
          exact Only.refl _ _
        have bCW := koW.blk bC17 (by simp; omega)
        have bAW := koW.blk bA2 (by simp; omega)
        have hDW := hD2.keep koW (by have := h.only.size; simp; omega) (fun b hb => by simp; exact fun e => hgh (e ▸ hb))
        have hStW := (((hSt2.setB (g := w9.heap.size) (k := 0) (u := .int .i64 22) hz9).setB (g := w9.heap.size) (k := 1) (u := .int .i64 ((nL : Int) - 1)) hz9).setB (g := w9.heap.size) (k := 2) (u := .int .i64 0) hz9).setB (g := w9.heap.size) (k := 3) (u := .bool false) hz9
        obtain ⟨WW, hWW⟩ : ∃ W, W = (((wr.setCell ⟨w9.heap.size, 0, none⟩ (.int .i64 22)).setCell ⟨w9.heap.size, 1, none⟩ (.int .i64 ((nL : Int) - 1))).setCell ⟨w9.heap.size, 2, none⟩ (.int .i64 0)).setCell ⟨w9.heap.size, 3, none⟩ (.bool false) := ⟨_, rfl⟩
        rw [← hWW] at bhW koW bCW bAW hDW hStW ⊢
        clear hWW
        clear hXc hHc hHf hC17 HFt
        have HKp := Lib.hid (dkeep_any hDW c.stream (hft).few hsR ((hft).mt _) ((hft).kept _) (hft).now)
        have hCz := fun i => (bCW).cell i
        go_wp2_with fail
        refine HKp.out.mono ?_
        rintro eK wK ⟨rfl, HK, hDK, hStK⟩
        obtain ⟨bAK, gAK⟩ := hStK.keepB bAW hgA
        obtain ⟨bhK, ghK⟩ := hStK.keepB bhW hgh
        have hAKc := fun i => bAK.cell i
        have hAKf := fun i => bAK.free i
        have hhKc := fun i => bhK.cell i
        have hStT := (hStW).trans hStK
        clear HKp hCz
        rw [← HFin.out.2] at hDK
        go_wp2
        have hS4 := (((bAK.set 0 (.int .i64 22)).set 1 (.int .i64 ((nL : Int) - 1))).set 2 (.int .i64 0)).set 3 (.bool false)
        have hge : w.heap.size ≤ w.heap.size + 1 := by omega
        have hD4 := (((hDK.setB (k := 0) (u := .int .i64 22) gAK haz).setB (k := 1) (u := .int .i64 ((nL : Int) - 1)) gAK haz).setB (k := 2) (u := .int .i64 0) gAK haz).setB (k := 3) (u := .bool false) gAK haz
        have hSt4 := (((hStT.setB (k := 0) (u := .int .i64 22) hge).setB (k := 1) (u := .int .i64 ((nL : Int) - 1)) hge).setB (k := 2) (u := .int .i64 0) hge).setB (k := 3) (u := .bool false) hge
        have hc4 := hS4.cell
        refine bodyPost_ret (v := .agg #[.int .i64 22, .int .i64 ((nL : Int) - 1), .int .i64 0, .bool false]) (by simp [results, Tryz.results10, go_sem, hc4]) rfl ⟨?ans, _, hD4, hSt4⟩
        case ans => rw [HFin.out.1]
      | true =>
        rw [hq, if_neg (by simp)] at HAct
        rw [hq] at HFt
        obtain ⟨Rk, hRk⟩ : ∃ Rk : Nat → RS, Rk = fun k => ({ R with l := R.l ++ storedOf c.stream R.now (c.events.take k) nL nA } : RS) := ⟨_, rfl⟩
        have hRk0 : Rk 0 = R := by
          rw [hRk]
          show ({ R with l := R.l ++ storedOf c.stream R.now (c.events.take 0) nL nA } : RS) = R
          rw [List.take_zero, show storedOf c.stream R.now [] nL nA = [] from rfl, List.append_nil]
        have HRk := Lib.hid hRk
        have HD0 : Hid (DTo a W14 H rb (Rk 0) wr) := by
          rw [hRk0]
          exact ⟨H, hD14.keep0 hO, Stepped.first0 hO (Stepped.refl _ _)⟩
        clear hRk hRk0
        go_wp2_with (go_at_call 30; refine (HFt.out _).mono ?_; rintro e15 w15 ⟨rfl, rfl⟩)
        go_loopw [15] (fun kv w2 => ∃ k : Nat, k ≤ c.events.length ∧ kv = .int .i64 k ∧ DTo a W14 H rb (Rk k) w2) (fun kv _ => c.events.length - (intOf kv).toNat)
        case atStart => exact ⟨0, Nat.zero_le _, rfl, HD0.out⟩
        case round =>
          obtain ⟨k, hkn, rfl, H2, hD2, hSt2⟩ := hrel
          obtain ⟨bC2, gC2⟩ := hSt2.keepB bC14 hgC
          obtain ⟨bA2, gA2⟩ := hSt2.keepB bA14 hgA
          obtain ⟨bh2, gh2⟩ := hSt2.keepB bh hgh
          have hC2 := fun t => bC2.cell t
          have hrow := hD2
          obtain ⟨⟨vl, vs, hA2, hH2⟩, -, -⟩ := hrow
          have hll : (Rk k).l.length = nA + k := by
            rw [HRk.out]
            show (R.l ++ storedOf c.stream R.now (c.events.take k) nL nA).length = _
            rw [List.length_append, storedOf_len, List.length_take, HnA.out]
            omega
          have hnow : (Rk k).now = R.now := by rw [HRk.out]
          obtain ⟨Al2, cl2, hls2, hl21, hl22⟩ := hD2.ls
          obtain ⟨M2, -, -, -⟩ := hD2.nums
          rw [hll] at hls2 hl21
          rw [hnow] at M2
          have hbnd : nA + c.events.length ≤ 1000000 := by rw [HnA.out, HR.out]; exact hlm
          by_cases hlt2 : k < c.events.length
          · have hev2 : ∀ j (hj : j < c.events.length), ∃ b off, A1 = some ⟨b, off, none⟩ ∧ b < wr.heap.size ∧ ∀ t, t < 4 → wr.cell? ⟨b, off + j * 4 + t, none⟩ = (c.events[j].cells)[t]? := by
              obtain ⟨A', c', e, _, _, q⟩ := ((hSt14.trans hSt2).keepS he hn).openE EventR.cells (fun _ => rfl)
              injection e with e1 e2 e3
              subst e1
              exact q
            obtain ⟨b1, o1, hA1, hb1, hc1⟩ := hev2 k hlt2
            clear hev2
            subst hA1
            have htk := storedOf_take c.stream R.now c.events k hlt2 nL nA
            obtain ⟨y, hy⟩ : ∃ y, y = c.events[k] := ⟨_, rfl⟩
            rw [← hy] at hc1 htk
            have HTk := Lib.hid htk
            have c0 := Within.cell (S := []) (show wr.cell? ⟨b1, o1 + k * 4, none⟩ = some (.int .i64 y.id) from hc1 0 (by omega)) (by simp)
            have c1 := Within.cell (S := []) (show wr.cell? ⟨b1, o1 + k * 4 + 1, none⟩ = some (.string y.type) from hc1 1 (by omega)) (by simp)
            have c2 := Within.cell (S := []) (show wr.cell? ⟨b1, o1 + k * 4 + 2, none⟩ = some (.string y.data) from hc1 2 (by omega)) (by simp)
            have c3 := Within.cell (S := []) (show wr.cell? ⟨b1, o1 + k * 4 + 3, none⟩ = some (.float .f64 y.value) from hc1 3 (by omega)) (by simp)
            have C2 := Within.cell (S := []) (show wr.cell? ⟨w.heap.size, 2, none⟩ = some (.string c.stream) from bC2.cell 2) (by simp)
            have C4 := Within.cell (S := []) (show wr.cell? ⟨w.heap.size, 4, none⟩ = some (.slice (some ⟨b1, o1, none⟩) c.events.length cap1) from bC2.cell 4) (by simp)
            have D0 := Within.cell (S := []) hls2 (by simp)
            have D2 := Within.cell (S := []) M2 (by simp)
            have hwk := IntWalk.i64_in ((nL : Int) + (k : Int)) ⟨by omega, by omega⟩
            have HRow := Lib.hid hA2.l
            have HA2 := Lib.hid hA2
            have HH2 := Lib.hid hH2
            obtain ⟨nk, hnk⟩ : ∃ nk, nk = nA + k := ⟨_, rfl⟩
            rw [← hnk] at D0 hls2 hl21 hll
            have hnk2 : nk + 1 ≤ 1000000 := by omega
            have HLl := Lib.hid hll
            have HNk := Lib.hid hnk
            clear hc1 htk hy hA2 hH2 hll hnk hnow hC17 bC17
            go_wp2_with fail
            refine wp_region_in [] [0, 1, 2, 3, 4, 5, 6, 7, 8, 9, 10, 11, 12, 13, 14, 15, 16, 17, 18, 19, 20] [21] [22] (by kernel_rfl) (by kernel_rfl) (by intro c d u a w h; cases d <;> exact h) ?_
            show wpQuiet _ _ _ _ [_, _, _, _, _, _, _, _, _, _, _, _, _, _, _, _, _, _, _, _, _] _
            repeat (go_big_quiet_step (fail))
            refine wpQuiet_nil ?_
            clear c0 c1 c2 c3 C2 C4 D0 D2
            show wpList _ _ _ [_] _ _
            go_wp2_with fail
            refine check_of (S := []) ((Only.refl [] wr).drew.alloc _) ?_
            show wpList _ _ _ [_] _ _
            go_upto_region 37 with (go_at_call 31; refine (r1canon_any _ _).mono ?_; rintro e16 w16 ⟨rfl, rfl⟩)
            obtain ⟨x, hx⟩ : ∃ x, x = stOne c.stream R.now y ((nL : Int) + k) nk := ⟨_, rfl⟩
            have hxc : x.cells = [.int .i64 y.id, .string y.type, .string y.data, .float .f64 (canon y.value), .string c.stream, .int .i64 ((nL : Int) + k), .int .i64 nk, .int .i64 R.now] := by rw [hx]; rfl
            obtain ⟨W37, hW37⟩ : ∃ W, W = (wr.alloc (.cells #[.int .i64 y.id, .string y.type, .string y.data, .float .f64 (canon y.value), .string c.stream, .int .i64 ((nL : Int) + k), .int .i64 nk, .int .i64 R.now] 92)).drew := ⟨_, rfl⟩
            rw [← hW37]
            have k37 : Only [] wr W37 := by rw [hW37]; exact ((Only.refl [] wr).alloc _).drew
            have b37 : Blk W37 wr.heap.size 92 #[.int .i64 y.id, .string y.type, .string y.data, .float .f64 (canon y.value), .string c.stream, .int .i64 ((nL : Int) + k), .int .i64 nk, .int .i64 R.now] := by rw [hW37]; exact (Only.refl [] _).drew.blk (Blk.new _ _ _) (by simp)
            have hNext : (Rk (k + 1)).l = (Rk k).l ++ [x] := by
              rw [HRk.out]
              show R.l ++ storedOf c.stream R.now (c.events.take (k + 1)) nL nA = (R.l ++ storedOf c.stream R.now (c.events.take k) nL nA) ++ [x]
              rw [HTk.out, hx, HNk.out, List.append_assoc]
              rfl
            have hNext2 : Rk (k + 1) = { Rk k with l := (Rk k).l ++ [x] } := by
              rw [← hNext, HRk.out]
            obtain ⟨A7, c7, hvl, -, -⟩ := own_form HRow.out
            have hvA : A7 = Al2 ∧ c7 = cl2 := by
              have h1 := HA2.out.blk.cell 0
              rw [hls2] at h1
              rw [hvl, HLl.out] at h1
              have h2 : some (Value.slice Al2 nk cl2) = some (Value.slice A7 nk c7) := h1
              injection h2 with h2
              injection h2 with q1 q2 q3
              exact ⟨q1.symm, q3.symm⟩
            obtain ⟨rfl, rfl⟩ := hvA
            rw [HLl.out] at hvl
            have hrow := (Slc.of_own HRow.out).1.only0 k37
            rw [hvl, HLl.out] at hrow
            have D0 := Within.cell (S := []) ((k37.cell (p := ⟨rb, 0, none⟩) (hD2.lt rb hD2.rbH) (by simp)).trans hls2) (by simp)
            have E0 := Within.cell (S := []) (show W37.cell? ⟨wr.heap.size, 0, none⟩ = some (.int .i64 y.id) from b37.cell 0) (by simp)
            have E1 := Within.cell (S := []) (show W37.cell? ⟨wr.heap.size, 1, none⟩ = some (.string y.type) from b37.cell 1) (by simp)
            have E2 := Within.cell (S := []) (show W37.cell? ⟨wr.heap.size, 2, none⟩ = some (.string y.data) from b37.cell 2) (by simp)
            have E3 := Within.cell (S := []) (show W37.cell? ⟨wr.heap.size, 3, none⟩ = some (.float .f64 (canon y.value)) from b37.cell 3) (by simp)
            have E4 := Within.cell (S := []) (show W37.cell? ⟨wr.heap.size, 4, none⟩ = some (.string c.stream) from b37.cell 4) (by simp)
            have E5 := Within.cell (S := []) (show W37.cell? ⟨wr.heap.size, 5, none⟩ = some (.int .i64 ((nL : Int) + k)) from b37.cell 5) (by simp)
            have E6 := Within.cell (S := []) (show W37.cell? ⟨wr.heap.size, 6, none⟩ = some (.int .i64 nk) from b37.cell 6) (by simp)
            have E7 := Within.cell (S := []) (show W37.cell? ⟨wr.heap.size, 7, none⟩ = some (.int .i64 R.now) from b37.cell 7) (by simp)
            have HApp := Lib.hid (fun (W : World) (hW : Only [] W37 W) => run_app (P := Tryz.prog) 28 28 W37.heap.size 92 (.agg #[.int .i64 0, .string ⟨#[]⟩, .string ⟨#[]⟩, .float .f64 0, .string ⟨#[]⟩, .int .i64 0, .int .i64 0, .int .i64 0]) 8 88 Tryz.underlying28 infoSt rfl (by decide) (World.ownsRow_nil W W37.heap.size 92 8) (hrow.only0 hW) (stored_one (Rk k).l) (by omega) (by unfold maxLen; omega) hW.size)
            have hD37 := hD2.keep0 k37
            have hA37 := HA2.out.only0 k37
            rw [HH2.out] at hD37
            have HD37 := Lib.hid hD37
            have HA37 := Lib.hid hA37
            have HN2 := Lib.hid hNext2
            have HX := Lib.hid hx
            have HXc := Lib.hid hxc
            have hbk37 := HA37.out.blk
            clear hrow hx hxc hW37 hNext hNext2 hD37 hA37 hls2 hvl hD2
            go_wp2_with fail
            refine wp_region_fork [] [0, 1, 2, 3, 4, 6] 5 7 [8] [9, 10, 11] (by kernel_rfl) (by kernel_rfl) (by intro c d u a w h; cases d <;> exact h) ?_
            show wpQuiet _ _ _ _ [_, _, _, _, _, _] _
            repeat (go_big_quiet_step (fail))
            refine wpQuiet_nil ?_
            clear D0 E0 E1 E2 E3 E4 E5 E6 E7
            refine fork_intro (fun a0 a1 W => ∃ (A4 : Option Addr) (c4 g : Nat), a1 = (a0.put (some 212) (.slice A4 nk c4)).put (some 214) (.slice (some ⟨g, 0, none⟩) 1 1) ∧ Only [] W37 W ∧ W.ownsRow W37.heap.size 92 8 (.slice A4 nk c4) nk ((Rk k).l.flatMap StoredR.cells) ∧ Slc W 8 (.slice (some ⟨g, 0, none⟩) 1 1) 1 x.cells) ?_ ?_ ?_
            · obtain ⟨A4, c4, w4, hr4, hown4, hO4, _⟩ := HApp.out W37.drew (Only.refl _ _).drew
              simp only [Nat.zero_add, List.nil_append] at hr4 hown4
              have hO4' : Only [] W37.drew w4 := by simpa [Value.ownBlock] using hO4
              have HR4 := Lib.hid hr4
              clear hr4 hO4
              show wpList _ _ _ [_] _ _
              go_wp2_with (at_builtin; refine Lib.wpList_append_run _ rfl (.const (.slice none 0 0)) (.tmp 211) 28 28 rfl _ _ rfl rfl _ _ HR4.out ?_)
              refine check_of (S := []) ((Only.refl [] _).drew.trans hO4') ?_
              show wpList _ _ _ [_] _ _
              go_wp2
              exact check_of (S := []) (((Only.refl [] _).drew.trans hO4').alloc _) ⟨A4, c4, w4.heap.size, rfl, ((Only.refl [] _).drew.trans hO4').alloc _, hown4.alloc _, by rw [HXc.out]; exact slc_new1 rfl⟩
            · obtain ⟨A4, c4, w4, hr4, hown4, hO4, _⟩ := HApp.out (W37.drew.alloc (.cells #[.int .i64 y.id, .string y.type, .string y.data, .float .f64 (canon y.value), .string c.stream, .int .i64 ((nL : Int) + k), .int .i64 nk, .int .i64 R.now] 92)) ((Only.refl _ _).drew.alloc _)
              simp only [Nat.zero_add, List.nil_append] at hr4 hown4
              have hO4' : Only [] (W37.drew.alloc (.cells #[.int .i64 y.id, .string y.type, .string y.data, .float .f64 (canon y.value), .string c.stream, .int .i64 ((nL : Int) + k), .int .i64 nk, .int .i64 R.now] 92)) w4 := by simpa [Value.ownBlock] using hO4
              have HR4 := Lib.hid hr4
              clear hr4 hO4
              show wpList _ _ _ [_] _ _
              go_wp2
              refine check_of (S := []) ((Only.refl [] _).drew.alloc _) ?_
              show wpList _ _ _ [_] _ _
              go_wp2_with (at_builtin; refine Lib.wpList_append_run _ rfl (.const (.slice none 0 0)) (.tmp 211) 28 28 rfl _ _ rfl rfl _ _ HR4.out ?_)
              exact check_of (S := []) (((Only.refl [] _).drew.alloc _).trans hO4') ⟨A4, c4, W37.drew.heap.size, rfl, ((Only.refl [] _).drew.alloc _).trans hO4', hown4, by rw [HXc.out]; exact (slc_new1 (size := 8) rfl).only0 hO4'⟩
            · rintro _ W ⟨A4, c4, g, rfl, hW, hown4, hs1⟩
              obtain ⟨A5, c5, w5, hr5, hown5, hO5, _⟩ := run_app (P := Tryz.prog) 28 28 W37.heap.size 92 (.agg #[.int .i64 0, .string ⟨#[]⟩, .string ⟨#[]⟩, .float .f64 0, .string ⟨#[]⟩, .int .i64 0, .int .i64 0, .int .i64 0]) 8 88 Tryz.underlying28 infoSt rfl (by decide) hown4 hs1 (by simpa using stored_one [x]) (by omega) (by unfold maxLen; omega) hW.size
              have k5 : Only [] W37 w5 := hW.step hO5 (fun g hg => .inr (World.ownsRow.lt hown4 g (by simpa using hg)).1)
              have hlx : ((Rk k).l ++ [x]).length = nk + 1 := by rw [List.length_append, HLl.out]; rfl
              have ho5 : w5.ownsRow W37.heap.size 92 8 (.slice A5 (nk + 1) c5) ((Rk k).l ++ [x]).length (((Rk k).l ++ [x]).flatMap StoredR.cells) := by
                rw [hlx]
                simpa using hown5
              have hto := DTo.setL HD37.out HA37.out k5 ho5 (Nat.le_refl _)
              rw [← HN2.out] at hto
              have hb5 := k5.blk hbk37 (by simp)
              have hb5c := fun t => hb5.cell t
              have hb5f := fun t => hb5.free t
              have HR5 := Lib.hid hr5
              have HTo := Lib.hid hto
              clear hr5 hown4 hown5 hO5 hs1 ho5 hto hlx hb5
              show wpList _ _ _ [_] _ _
              go_frame
              go_wp2_with (at_builtin; refine Lib.wpList_append_run _ rfl (.tmp 212) (.tmp 214) 28 28 rfl _ _ rfl rfl _ _ HR5.out ?_)
              refine check_of (S := []) k5 ?_
              show wpList _ _ _ [_, _, _] _ _
              go_wp2
              go_round
              case rel => exact ⟨k + 1, hlt2, by simp, DTo.trans (hSt2.then0 k37) (HH2.out ▸ HTo.out)⟩
              case measure => simp [intOf]; omega
          · have hkn2 : k = c.events.length := by omega
            have hkge : ¬ (k : Int) < (c.events.length : Int) := by omega
            have hRn : Rk k = { R with l := R.l ++ storedOf c.stream R.now c.events nL nA } := by
              rw [HRk.out]
              dsimp only
              rw [List.take_of_length_le (by omega)]
            obtain ⟨n, hn8⟩ : ∃ n, n = c.events.length := ⟨_, rfl⟩
            have HFin : Hid ((((r.tick c.time).act c).1.val = .agg #[.int .i64 0, .int .i64 nL, .int .i64 ((nA : Int) + k - 1), .bool false]) ∧ ((r.tick c.time).act c).2 = (Rk k).keep c.stream) := by
              unfold Hid
              rw [HAct.out, hRn, hkn2]
              exact ⟨rfl, rfl⟩
            have hfk : (Rk k).Fine := by
              have hlk : (Rk k).l.length ≤ 1000000 := by omega
              have := hft.more (l := (Rk k).l) hlk
              rw [show ({ R with l := (Rk k).l } : RS) = Rk k by rw [HRk.out]] at this
              exact this
            have hsk : (Rk k).s.length + 1 ≤ 1000000 := by
              rw [HRk.out]
              exact hsR
            have hww := IntWalk.i64_in (((nA + k : Nat) : Int) - 1) ⟨by omega, by omega⟩
            obtain ⟨nk, hnk⟩ : ∃ nk, nk = nA + k := ⟨_, rfl⟩
            rw [← hnk] at hls2 hl21 hll hww
            have hHc := fun t => bh2.cell t
            have hHf := fun t => bh2.free t
            have HNk := Lib.hid hnk
            clear hkn2 hRn hn8 hll hnk hnow hC17 bC17 hA2 hH2
            go_upto_region 50 with (fail)
            have bhW := bh2.set 2 (.int .i64 ((nk : Int) - 1))
            have koW : Only [w9.heap.size] wr (wr.setCell ⟨w9.heap.size, 2, none⟩ (.int .i64 ((nk : Int) - 1))) := (Only.refl _ _).setCell (.inl (by simp)) _
            have bCW := koW.blk bC2 (by simp; omega)
            have bAW := koW.blk bA2 (by simp; omega)
            have hDW := hD2.setB (k := 2) (u := .int .i64 ((nk : Int) - 1)) gh2 (by have := h.only.size; omega)
            have hStW := (hSt14.trans hSt2).setB (g := w9.heap.size) (k := 2) (u := .int .i64 ((nk : Int) - 1)) hz9
            obtain ⟨WW, hWW⟩ : ∃ W, W = wr.setCell ⟨w9.heap.size, 2, none⟩ (.int .i64 ((nk : Int) - 1)) := ⟨_, rfl⟩
            rw [← hWW] at bhW bCW bAW hDW hStW ⊢
            clear hWW koW hHc hHf hC2
            have HKp := Lib.hid (dkeep_any hDW c.stream (hfk).few hsk ((hfk).mt _) ((hfk).kept _) (hfk).now)
            have hCz := fun i => (bCW).cell i
            go_wp2_with fail
            refine HKp.out.mono ?_
            rintro eK wK ⟨rfl, HK, hDK, hStK⟩
            obtain ⟨bAK, gAK⟩ := hStK.keepB bAW gA2
            obtain ⟨bhK, ghK⟩ := hStK.keepB bhW gh2
            have hAKc := fun i => bAK.cell i
            have hAKf := fun i => bAK.free i
            have hhKc := fun i => bhK.cell i
            have hStT := (hStW).trans hStK
            clear HKp hCz
            rw [← HFin.out.2] at hDK
            go_wp2
            have hS4 := (((bAK.set 0 (.int .i64 0)).set 1 (.int .i64 nL)).set 2 (.int .i64 ((nk : Int) - 1))).set 3 (.bool false)
            have hge : w.heap.size ≤ w.heap.size + 1 := by omega
            have hD4 := (((hDK.setB (k := 0) (u := .int .i64 0) gAK haz).setB (k := 1) (u := .int .i64 nL) gAK haz).setB (k := 2) (u := .int .i64 ((nk : Int) - 1)) gAK haz).setB (k := 3) (u := .bool false) gAK haz
            have hSt4 := (((hStT.setB (k := 0) (u := .int .i64 0) hge).setB (k := 1) (u := .int .i64 nL) hge).setB (k := 2) (u := .int .i64 ((nk : Int) - 1)) hge).setB (k := 3) (u := .bool false) hge
            have hc4 := hS4.cell
            refine bodyPost_ret (v := .agg #[.int .i64 0, .int .i64 nL, .int .i64 ((nk : Int) - 1), .bool false]) (by simp [results, Tryz.results10, go_sem, hc4]) rfl ⟨?ans, _, hD4, hSt4⟩
            case ans =>
              rw [HFin.out.1, HNk.out]
              rfl
end
end
end Go.Proofs.YteinoiicnmemhaaGreatDoor

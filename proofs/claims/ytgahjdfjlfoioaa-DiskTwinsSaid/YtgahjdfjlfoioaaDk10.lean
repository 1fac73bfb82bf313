/- Contracts: Remove, Rename, Truncate. -/
import Derived.Test.YtgahjdfjlfoioaaDk9
namespace Go.Proofs.Ytgahjdfjlfoioaa
open Go.RowKit Go.Sort

theorem sync_any {w : World} {db mb : Nat} {d : DS} {kv : Value} {M : Nat} (h : DiskAt w db mb d kv) (hk : d.Ok M) (hM : M ≤ 1125899906842624) (n : ByteArray) :
    Calls Try.prog 14 #[.pointer (some ⟨db, 0, none⟩), .string n] w fun e w' => e = .returned (.int .i64 (d.sync n).1) ∧ Leads db mb w kv w' (d.sync n).2 := by
  unfold DS.sync
  by_cases he : (d.find n).2 = 0
  · rw [if_neg (by simp [he])]
    by_cases hd : d.doneE = 0
    · rw [if_neg (by simp [hd])]
      exact sync_go h hk hM n he hd
    · rw [if_pos hd]
      exact sync_down h hk hM n he hd
  · rw [if_pos he]
    exact sync_err h n he
theorem sync_nil (w : World) (n : ByteArray) :
    Calls Try.prog 14 #[.pointer none, .string n] w fun e w' => e = .returned (.int .i64 14) ∧ Only [] w w' := by
  go_enter Try.func14, Try.ntmps14
  go_wp2_with (go_at_call 36; refine (find_nilv _ _).mono ?_; rintro e w1 ⟨rfl, ho1⟩)
  go_ret
  exact ⟨rfl, ho1.alloc _⟩

/-! ## Remove -/
theorem remove_err {w : World} {db mb : Nat} {d : DS} {kv : Value} (h : DiskAt w db mb d kv) (n : ByteArray) (he : (d.find n).2 ≠ 0) :
    Calls Try.prog 13 #[.pointer (some ⟨db, 0, none⟩), .string n] w fun e w' => e = .returned (.int .i64 (d.find n).2) ∧ Leads db mb w kv w' d := by
  have hc := find_err h n he
  have HC := Lib.hid hc
  have he1 : ((d.find n).2 != 0) = true := by simp [he]
  clear hc he
  go_enter Try.func13, Try.ntmps13
  go_wp2_with (go_at_call 36; refine HC.out.mono ?_; rintro e w1 ⟨rfl, ho1⟩)
  go_ret
  exact ⟨rfl, Leads.of ((h.only0 ho1).only0 ((Only.refl [] w1).alloc _)) (ho1.of_nil.alloc _)⟩
theorem remove_down {w : World} {db mb : Nat} {d : DS} {kv : Value} {M : Nat} (h : DiskAt w db mb d kv) (hk : d.Ok M) (hM : M ≤ 1125899906842624) (n : ByteArray) (he : (d.find n).2 = 0) (hd : d.doneE ≠ 0) :
    Calls Try.prog 13 #[.pointer (some ⟨db, 0, none⟩), .string n] w fun e w' => e = .returned (.int .i64 d.doneE) ∧ Leads db mb w kv w' d.done := by
  have hc := find_ok h n he
  have HC := Lib.hid hc
  have he1 : (d.doneE != 0) = true := by simp [hd]
  clear hc he hd
  go_enter Try.func13, Try.ntmps13
  go_wp2_with (first | (go_at_call 36; refine HC.out.mono ?_; rintro e w1 ⟨rfl, ho1⟩) | (go_at_call 35; refine (done_any ((h.only0 ho1).only0 ((Only.refl [] w1).alloc _)) hk hM).mono ?_; rintro e w2 ⟨rfl, h2⟩))
  go_ret
  exact ⟨rfl, Leads.step (ho1.of_nil.alloc _) (fun g hg => .inl hg) h2⟩
theorem remove_go {w : World} {db mb : Nat} {d : DS} {kv : Value} {M : Nat} (h : DiskAt w db mb d kv) (hk : d.Ok M) (hM : M ≤ 1125899906842624) (n : ByteArray) (he : (d.find n).2 = 0) (hd : d.doneE = 0) :
    Calls Try.prog 13 #[.pointer (some ⟨db, 0, none⟩), .string n] w fun e w' => e = .returned (.int .i64 0) ∧ Leads db mb w kv w' { d.done with fs := adel d.done.fs n } := by
  have hc := find_ok h n he
  have HC := Lib.hid hc
  clear hc he
  have hgs : (d.get n).b.size ≤ M := (hk.fs.fok.get n).2.2
  have hz : ∀ W, DiskAt W db mb d kv → Calls Try.prog 35 #[.pointer (some ⟨db, 0, none⟩)] W fun e w' => e = .returned (.int .i64 0) ∧ Leads db mb W kv w' d.done := fun W hW => by
    have := done_any hW hk hM
    rw [hd] at this
    exact this
  have HZ := Lib.hid hz
  clear hz hd
  go_enter Try.func13, Try.ntmps13
  go_wp2_with (first | (go_at_call 36; refine HC.out.mono ?_; rintro e w1 ⟨rfl, ho1⟩; have hb1 := fun o : Obj => (Only.refl [] w1).alloc o) | (go_at_call 35; refine (HZ.out _ ((h.only0 ho1).only0 (hb1 _))).mono ?_; rintro e w2 ⟨rfl, kv2, h2, hk2, ho2⟩; have hn1 : w1.heap.size ∉ [db, mb] := (by have q1 := (h.only0 ho1).blk.lt; have q2 := (h.only0 ho1).map.lt; simp; omega); have hbx := ho2.blk (Blk.new w1 61 #[.string (d.get n).b, .int .i64 (d.get n).lasts, .bool (d.get n).known]) hn1; have k0 := hbx.cell 0; have k1 := hbx.cell 1; have k2 := hbx.cell 2; have f0 := hbx.free 0; have f1 := hbx.free 1; have f2 := hbx.free 2; have d2 : w2.cell? ⟨db, 2, none⟩ = some (.map (some mb)) := h2.blk.cell 2)| (at_delete; refine wpList_delete_is rfl 55 9 rfl keyEnc_string Try.underlying55 Try.underlying9 n rfl rfl h2.map ?_; intro w5 hm5 hu5))
  have hw2 : Only [db, mb] w w2 := (ho1.of_nil.alloc _).trans ho2
  have hn2 : db ≠ w1.heap.size ∧ mb ≠ w1.heap.size := by simp at hn1; exact ⟨fun q => hn1.1 q.symm, fun q => hn1.2 q.symm⟩
  have hk2' : ∀ g, kv2.ownBlock = some g → g ≠ w1.heap.size := by
    intro g hg
    rcases hk2 g hg with q | q
    · have := h.old g q
      have := ho1.size
      omega
    · simp at q; omega
  have hk2f : ∀ g, kv2.ownBlock = some g → kv.ownBlock = some g ∨ w.heap.size ≤ g := by
    intro g hg
    rcases hk2 g hg with q | q
    · exact .inl q
    · right; simp at q; have := ho1.size; omega
  go_ret
  exact ⟨rfl, kv2, h2.files hu5 (adel d.done.fs n) (by rw [adel_map]; exact hm5), hk2f, hw2.trans (hu5.mono (by simp))⟩
theorem remove_any {w : World} {db mb : Nat} {d : DS} {kv : Value} {M : Nat} (h : DiskAt w db mb d kv) (hk : d.Ok M) (hM : M ≤ 1125899906842624) (n : ByteArray) :
    Calls Try.prog 13 #[.pointer (some ⟨db, 0, none⟩), .string n] w fun e w' => e = .returned (.int .i64 (d.remove n).1) ∧ Leads db mb w kv w' (d.remove n).2 := by
  unfold DS.remove
  by_cases he : (d.find n).2 = 0
  · rw [if_neg (by simp [he])]
    by_cases hd : d.doneE = 0
    · rw [if_neg (by simp [hd])]
      exact remove_go h hk hM n he hd
    · rw [if_pos hd]
      exact remove_down h hk hM n he hd
  · rw [if_pos he]
    exact remove_err h n he
theorem remove_nil (w : World) (n : ByteArray) :
    Calls Try.prog 13 #[.pointer none, .string n] w fun e w' => e = .returned (.int .i64 14) ∧ Only [] w w' := by
  go_enter Try.func13, Try.ntmps13
  go_wp2_with (go_at_call 36; refine (find_nilv _ _).mono ?_; rintro e w1 ⟨rfl, ho1⟩)
  go_ret
  exact ⟨rfl, ho1.alloc _⟩

/-! ## Truncate -/
theorem truncate_err {w : World} {db mb : Nat} {d : DS} {kv : Value} (h : DiskAt w db mb d kv) (n : ByteArray) (k : Int) (he : (d.find n).2 ≠ 0) :
    Calls Try.prog 31 #[.pointer (some ⟨db, 0, none⟩), .string n, .int .i64 k] w fun e w' => e = .returned (.int .i64 (d.find n).2) ∧ Leads db mb w kv w' d := by
  have hc := find_err h n he
  have HC := Lib.hid hc
  have he1 : ((d.find n).2 != 0) = true := by simp [he]
  clear hc he
  go_enter Try.func31, Try.ntmps31
  go_wp2_with (go_at_call 36; refine HC.out.mono ?_; rintro e w1 ⟨rfl, ho1⟩)
  go_ret
  exact ⟨rfl, Leads.of ((h.only0 ho1).only0 ((Only.refl [] w1).alloc _)) (ho1.of_nil.alloc _)⟩
theorem truncate_range {w : World} {db mb : Nat} {d : DS} {kv : Value} (h : DiskAt w db mb d kv) (n : ByteArray) (k : Int) (he : (d.find n).2 = 0) (hr : k < 0 ∨ (d.get n).b.size < k) :
    Calls Try.prog 31 #[.pointer (some ⟨db, 0, none⟩), .string n, .int .i64 k] w fun e w' => e = .returned (.int .i64 15) ∧ Leads db mb w kv w' d := by
  have hc := find_ok h n he
  have HC := Lib.hid hc
  clear hc he
  by_cases h0 : k < 0
  · clear hr
    go_enter Try.func31, Try.ntmps31
    go_wp2_with (go_at_call 36; refine HC.out.mono ?_; rintro e w1 ⟨rfl, ho1⟩)
    go_ret
    exact ⟨rfl, Leads.of ((h.only0 ho1).only0 ((Only.refl [] w1).alloc _)) (ho1.of_nil.alloc _)⟩
  · have h1 : (d.get n).b.size < k := by omega
    clear hr
    go_enter Try.func31, Try.ntmps31
    go_wp2_with (go_at_call 36; refine HC.out.mono ?_; rintro e w1 ⟨rfl, ho1⟩)
    go_ret
    exact ⟨rfl, Leads.of ((h.only0 ho1).only0 ((Only.refl [] w1).alloc _)) (ho1.of_nil.alloc _)⟩
theorem truncate_down {w : World} {db mb : Nat} {d : DS} {kv : Value} {M : Nat} (h : DiskAt w db mb d kv) (hk : d.Ok M) (hM : M ≤ 1125899906842624) (n : ByteArray) (k : Int) (he : (d.find n).2 = 0) (h0 : 0 ≤ k) (h1 : k ≤ (d.get n).b.size) (hd : d.doneE ≠ 0) :
    Calls Try.prog 31 #[.pointer (some ⟨db, 0, none⟩), .string n, .int .i64 k] w fun e w' => e = .returned (.int .i64 d.doneE) ∧ Leads db mb w kv w' d.done := by
  have hc := find_ok h n he
  have HC := Lib.hid hc
  have he1 : (d.doneE != 0) = true := by simp [hd]
  clear hc he hd
  go_enter Try.func31, Try.ntmps31
  go_wp2_with (first | (go_at_call 36; refine HC.out.mono ?_; rintro e w1 ⟨rfl, ho1⟩) | (go_at_call 35; refine (done_any ((h.only0 ho1).only0 ((Only.refl [] w1).alloc _)) hk hM).mono ?_; rintro e w2 ⟨rfl, h2⟩))
  go_ret
  exact ⟨rfl, Leads.step (ho1.of_nil.alloc _) (fun g hg => .inl hg) h2⟩
set_option maxHeartbeats 1000000 in
theorem truncate_go {w : World} {db mb : Nat} {d : DS} {kv : Value} {M : Nat} (h : DiskAt w db mb d kv) (hk : d.Ok M) (hM : M ≤ 1125899906842624) (n : ByteArray) (k : Int) (he : (d.find n).2 = 0) (h0 : 0 ≤ k) (h1 : k ≤ (d.get n).b.size) (hd : d.doneE = 0) :
    Calls Try.prog 31 #[.pointer (some ⟨db, 0, none⟩), .string n, .int .i64 k] w fun e w' => e = .returned (.int .i64 0) ∧ Leads db mb w kv w' { d.done with fs := aput d.done.fs n ⟨(d.get n).b.extract 0 k.toNat, min (d.get n).lasts k, (d.get n).known⟩ } := by
  have hc := find_ok h n he
  have HC := Lib.hid hc
  clear hc he
  have hgs : (d.get n).b.size ≤ M := (hk.fs.fok.get n).2.2
  have hz : ∀ W, DiskAt W db mb d kv → Calls Try.prog 35 #[.pointer (some ⟨db, 0, none⟩)] W fun e w' => e = .returned (.int .i64 0) ∧ Leads db mb W kv w' d.done := fun W hW => by
    have := done_any hW hk hM
    rw [hd] at this
    exact this
  have HZ := Lib.hid hz
  clear hz hd
  go_enter Try.func31, Try.ntmps31
  go_wp2_with (first | (go_at_call 36; refine HC.out.mono ?_; rintro e w1 ⟨rfl, ho1⟩; have hb1 := fun o : Obj => (Only.refl [] w1).alloc o) | (go_at_call 35; refine (HZ.out _ ((h.only0 ho1).only0 (hb1 _))).mono ?_; rintro e w2 ⟨rfl, kv2, h2, hk2, ho2⟩; have hn1 : w1.heap.size ∉ [db, mb] := (by have q1 := (h.only0 ho1).blk.lt; have q2 := (h.only0 ho1).map.lt; simp; omega); have hbx := ho2.blk (Blk.new w1 61 #[.string (d.get n).b, .int .i64 (d.get n).lasts, .bool (d.get n).known]) hn1; have k0 := hbx.cell 0; have k1 := hbx.cell 1; have k2 := hbx.cell 2; have f0 := hbx.free 0; have f1 := hbx.free 1; have f2 := hbx.free 2; have d2 : w2.cell? ⟨db, 2, none⟩ = some (.map (some mb)) := h2.blk.cell 2))
  have hw2 : Only [db, mb] w w2 := (ho1.of_nil.alloc _).trans ho2
  have hn2 : db ≠ w1.heap.size ∧ mb ≠ w1.heap.size := by simp at hn1; exact ⟨fun q => hn1.1 q.symm, fun q => hn1.2 q.symm⟩
  have hk2' : ∀ g, kv2.ownBlock = some g → g ≠ w1.heap.size := by
    intro g hg
    rcases hk2 g hg with q | q
    · have := h.old g q
      have := ho1.size
      omega
    · simp at q; omega
  have hk2f : ∀ g, kv2.ownBlock = some g → kv.ownBlock = some g ∨ w.heap.size ≤ g := by
    intro g hg
    rcases hk2 g hg with q | q
    · exact .inl q
    · right; simp at q; have := ho1.size; omega
  go_region
  go_wp2
  have hT : Only [w1.heap.size] w2 (((w2.setCell ⟨w1.heap.size, 0, none⟩ (.string ((d.get n).b.extract 0 k.toNat))).setCell ⟨w1.heap.size, 1, none⟩ (.int .i64 (min (d.get n).lasts k))).drew) :=
    (((Only.refl [w1.heap.size] w2).setCell (p := ⟨w1.heap.size, 0, none⟩) (.inl (by simp)) _).setCell (p := ⟨w1.heap.size, 1, none⟩) (.inl (by simp)) _).drew
  have hB : Blk (((w2.setCell ⟨w1.heap.size, 0, none⟩ (.string ((d.get n).b.extract 0 k.toNat))).setCell ⟨w1.heap.size, 1, none⟩ (.int .i64 (min (d.get n).lasts k))).drew) w1.heap.size 61 #[.string ((d.get n).b.extract 0 k.toNat), .int .i64 (min (d.get n).lasts k), .bool (d.get n).known] := (hbx.set 0 _).set 1 _
  have hD := h2.only0' hT hn2 hk2'
  have g2 : ∀ (e : Nat) (os : Array Obj), World.cell? (grow (redrawn _ e) os) ⟨db, 2, none⟩ = some (.map (some mb)) := fun e os => cell_regrown (hD.blk.cell 2) e os
  have b0 : ∀ (e : Nat) (os : Array Obj), World.cell? (grow (redrawn _ e) os) ⟨w1.heap.size, 0, none⟩ = some _ := fun e os => cell_regrown (hB.cell 0) e os
  have b1 : ∀ (e : Nat) (os : Array Obj), World.cell? (grow (redrawn _ e) os) ⟨w1.heap.size, 1, none⟩ = some _ := fun e os => cell_regrown (hB.cell 1) e os
  have b2 : ∀ (e : Nat) (os : Array Obj), World.cell? (grow (redrawn _ e) os) ⟨w1.heap.size, 2, none⟩ = some _ := fun e os => cell_regrown (hB.cell 2) e os
  have hMW : ∀ (e : Nat) (os : Array Obj), MapIs Value.string (grow (redrawn _ e) os) mb (fvals d.done.fs) := fun e os => hD.map.only (Only.regrown [] _ e os) (by simp)
  refine wp_region_btail 6 (by kernel_rfl) (by kernel_rfl) ?_
  simp only [List.take_succ_cons, List.take_zero]
  repeat (go_big_quiet_step (fail))
  refine wpQuiet_nil ?_
  rintro _ ⟨p, rfl⟩
  simp only [List.drop_succ_cons, List.drop_zero]
  refine wpList_update_is rfl 55 rfl keyEnc_string Try.underlying55 Try.underlying9 n (.agg #[.string ((d.get n).b.extract 0 k.toNat), .int .i64 (min (d.get n).lasts k), .bool (d.get n).known]) rfl rfl rfl (hMW p.d p.os) ?_
  intro w5 hm5 hu5
  have hO5 := (Only.regrown [mb] _ p.d p.os).trans hu5
  clear hu5
  go_wp2
  go_ret
  refine ⟨rfl, kv2, hD.files hO5 (aput d.done.fs n ⟨(d.get n).b.extract 0 k.toNat, min (d.get n).lasts k, (d.get n).known⟩) (by rw [aput_map]; exact hm5), hk2f, ?_⟩
  exact (hw2.step hT (by simp; right; have := ho1.size; omega)).trans (hO5.mono (by simp))
end Go.Proofs.Ytgahjdfjlfoioaa

/- Contracts: done, Append. -/
import Derived.Test.YtgahjdfjlfoioaaDk7
namespace Go.Proofs.Ytgahjdfjlfoioaa
open Go.RowKit Go.Sort

/-- From w to w' the disk in db has become d; of the slice kept for a crash: it is the one that was, or new. -/
def Leads (db mb : Nat) (w : World) (kv : Value) (w' : World) (d : DS) : Prop :=
  ∃ kv', DiskAt w' db mb d kv' ∧ (∀ g, kv'.ownBlock = some g → kv.ownBlock = some g ∨ w.heap.size ≤ g) ∧ Only [db, mb] w w'
theorem Leads.of {db mb : Nat} {w w' : World} {kv : Value} {d : DS} (h : DiskAt w' db mb d kv) (ho : Only [db, mb] w w') : Leads db mb w kv w' d := ⟨kv, h, fun _ hg => .inl hg, ho⟩
theorem Leads.step {db mb : Nat} {w w1 w' : World} {kv kv1 : Value} {d : DS} (ho : Only [db, mb] w w1) (hk : ∀ g, kv1.ownBlock = some g → kv.ownBlock = some g ∨ w.heap.size ≤ g) (h : Leads db mb w1 kv1 w' d) : Leads db mb w kv w' d := by
  obtain ⟨kv', h1, h2, h3⟩ := h
  refine ⟨kv', h1, fun g hg => ?_, ho.trans h3⟩
  rcases h2 g hg with q | q
  · exact hk g q
  · right; have := ho.size; omega

theorem done_any {w : World} {db mb : Nat} {d : DS} {kv : Value} {M : Nat} (h : DiskAt w db mb d kv) (hk : d.Ok M) (hM : M ≤ 1125899906842624) :
    Calls Try.prog 35 #[.pointer (some ⟨db, 0, none⟩)] w fun e w' => e = .returned (.int .i64 d.doneE) ∧ Leads db mb w kv w' d.done := by
  cases hg : d.goes
  · have e1 : d.doneE = 0 := by simp [DS.doneE, hg]
    have e2 : d.done = d.tick := by simp [DS.done, hg]
    rw [e1, e2]
    clear e1 e2
    go_enter Try.func35, Try.ntmps35
    go_wp2_with (go_at_call 45; refine (goes_any h hk.left).mono ?_; rintro e w1 ⟨rfl, h1, ho1⟩; rw [hg])
    go_ret
    exact ⟨rfl, Leads.of h1 (ho1.mono (by simp))⟩
  · have e1 : d.doneE = 14 := by simp [DS.doneE, hg]
    have e2 : d.done = d.tick.crash d.keep := by simp [DS.done, hg]
    have hF : Fs d.tick.fs M := by rw [DS.tick_fs]; exact hk.fs
    have hleft := h.left
    rw [e1, e2]
    clear e1 e2
    have hs := h.slc
    obtain ⟨A, cap, rfl, _⟩ := hs.cell
    go_enter Try.func35, Try.ntmps35
    go_wp2_with (first | (go_at_call 45; refine (goes_any h hk.left).mono ?_; rintro e w1 ⟨rfl, h1, ho1⟩; rw [hg]; have c5 : w1.cell? ⟨db, 5, none⟩ = some (.slice A d.keep.length cap) := h1.blk.cell 5) | (go_at_call 18; refine (crash_any h1 hF hM (keep := d.keep) (by have := h1.slc; rw [DS.tick_keep] at this; exact this) h1.apart).mono ?_; rintro e w2 ⟨rfl, ⟨kv2, h2, hk2⟩, ho2⟩))
    go_ret
    refine ⟨rfl, kv2, h2, fun g hg' => ?_, (ho1.mono (by simp)).trans ho2⟩
    rcases hk2 g hg' with q | q
    · exact .inl q
    · right; have := ho1.size; omega

theorem append_may {w : World} {db mb : Nat} {d : DS} {kv : Value} (h : DiskAt w db mb d kv) (n data : ByteArray) (hm : d.may [n] ≠ 0) :
    Calls Try.prog 11 #[.pointer (some ⟨db, 0, none⟩), .string n, .string data] w fun e w' => e = .returned (.int .i64 (d.may [n])) ∧ Leads db mb w kv w' d := by
  have hA : ∀ o1, DiskAt (w.alloc o1) db mb d kv := fun o1 => h.only0 ((Only.refl [] w).alloc o1)
  have hm1 : (d.may [n] != 0) = true := by simp [hm]
  clear hm
  go_enter Try.func11, Try.ntmps11
  go_wp2_with (go_at_call 32; refine (may_any (l := [n]) (hA _) (slc_one (heap_alloc_new _ _))).mono ?_; rintro e w' ⟨rfl, rfl⟩)
  go_ret
  exact ⟨rfl, Leads.of (hA _) ((Only.refl _ w).alloc _)⟩
theorem append_full {w : World} {db mb : Nat} {d : DS} {kv : Value} {M : Nat} (h : DiskAt w db mb d kv) (hk : d.Ok M) (hM : M ≤ 1125899906842624) (n data : ByteArray) (hm : d.may [n] = 0) (hf : d.full n data.size = true) :
    Calls Try.prog 11 #[.pointer (some ⟨db, 0, none⟩), .string n, .string data] w fun e w' => e = .returned (.int .i64 20) ∧ Leads db mb w kv w' d := by
  have hA : ∀ o1, DiskAt (w.alloc o1) db mb d kv := fun o1 => h.only0 ((Only.refl [] w).alloc o1)
  have hm1 : (d.may [n] != 0) = false := by simp [hm]
  have HF := Lib.hid hf
  clear hm hf
  go_enter Try.func11, Try.ntmps11
  go_wp2_with (first | (go_at_call 32; refine (may_any (l := [n]) (hA _) (slc_one (heap_alloc_new _ _))).mono ?_; rintro e w' ⟨rfl, rfl⟩) | (go_at_call 33; refine (full_any (hA _) hk.fs.bytes (by omega) n data).mono ?_; rintro e w' ⟨rfl, ho1⟩; rw [HF.out]))
  go_ret
  exact ⟨rfl, Leads.of ((hA _).only0 ho1) (((Only.refl _ w).alloc _).trans ho1.of_nil)⟩

set_option maxHeartbeats 1000000 in
theorem append_go {w : World} {db mb : Nat} {d : DS} {kv : Value} {M : Nat} (h : DiskAt w db mb d kv) (hk : d.Ok M) (n data : ByteArray) (hM : M + data.size ≤ 1125899906842624) (hm : d.may [n] = 0) (hf : d.full n data.size = false) :
    Calls Try.prog 11 #[.pointer (some ⟨db, 0, none⟩), .string n, .string data] w fun e w' => e = .returned (.int .i64 (DS.doneE { d with fs := aput d.fs n { d.get n with b := (d.get n).b ++ data } })) ∧ Leads db mb w kv w' (DS.done { d with fs := aput d.fs n { d.get n with b := (d.get n).b ++ data } }) := by
  have hA : ∀ o1, DiskAt (w.alloc o1) db mb d kv := fun o1 => h.only0 ((Only.refl [] w).alloc o1)
  have hm1 : (d.may [n] != 0) = false := by simp [hm]
  have hns := (DS.may_short hm n (by simp)).2
  have hk2 := hk.appended hm hf
  have HF := Lib.hid hf
  have hg := hk.fs.fok.get n
  have hgs : (d.get n).b.size ≤ M := hg.2.2
  clear hm hf hg
  go_enter Try.func11, Try.ntmps11
  go_wp2_with (first | (go_at_call 32; refine (may_any (l := [n]) (hA _) (slc_one (heap_alloc_new _ _))).mono ?_; rintro e w' ⟨rfl, rfl⟩) | (go_at_call 33; refine (full_any (hA _) hk.fs.bytes (by omega) n data).mono ?_; rintro e w1 ⟨rfl, ho1⟩; rw [HF.out]; have h1 := (hA _).only0 ho1; have d2' : w1.cell? ⟨db, 2, none⟩ = some (.map (some mb)) := h1.blk.cell 2) | (at_lookup; refine wpList_lookup_is rfl 55 rfl keyEnc_string Try.underlying55 Try.underlying9 (zeroFile _) n rfl rfl h1.map _ (getV n) ?_))
  have hB := Blk.new w1 61 #[.string ((d.get n).b ++ data), .int .i64 (d.get n).lasts, .bool (d.get n).known]
  have hD := h1.only0 ((Only.refl [] w1).alloc (.cells #[.string ((d.get n).b ++ data), .int .i64 (d.get n).lasts, .bool (d.get n).known] 61))
  have g2 : ∀ (e : Nat) (os : Array Obj), World.cell? (grow (redrawn _ e) os) ⟨db, 2, none⟩ = some (.map (some mb)) := fun e os => cell_regrown (hD.blk.cell 2) e os
  have b0 : ∀ (e : Nat) (os : Array Obj), World.cell? (grow (redrawn _ e) os) ⟨w1.heap.size, 0, none⟩ = some _ := fun e os => cell_regrown (hB.cell 0) e os
  have b1 : ∀ (e : Nat) (os : Array Obj), World.cell? (grow (redrawn _ e) os) ⟨w1.heap.size, 1, none⟩ = some _ := fun e os => cell_regrown (hB.cell 1) e os
  have b2 : ∀ (e : Nat) (os : Array Obj), World.cell? (grow (redrawn _ e) os) ⟨w1.heap.size, 2, none⟩ = some _ := fun e os => cell_regrown (hB.cell 2) e os
  have hMW : ∀ (e : Nat) (os : Array Obj), MapIs Value.string (grow (redrawn _ e) os) mb (fvals d.fs) := fun e os => hD.map.only (Only.regrown [] _ e os) (by simp)
  have hC : ∀ W : World, Calls Try.prog 34 #[.string n] W fun e w' => e = .returned (.string n) ∧ Only [] W w' := fun W => strClone_any n W (by omega)
  have HC := Lib.hid hC
  clear hC
  refine wp_region_btail 7 (by kernel_rfl) (by kernel_rfl) ?_
  simp only [List.take_succ_cons, List.take_zero]
  repeat (go_big_quiet_step ((go_at_call 34; exact Calls.regrown_only (HC.out _))))
  refine wpQuiet_nil ?_
  rintro _ ⟨p, rfl⟩
  simp only [List.drop_succ_cons, List.drop_zero]
  refine wpList_update_is rfl 55 rfl keyEnc_string Try.underlying55 Try.underlying9 n (.agg #[.string ((d.get n).b ++ data), .int .i64 (d.get n).lasts, .bool (d.get n).known]) rfl rfl rfl (hMW p.d p.os) ?_
  intro w5 hm5 hu5
  have hO5 := (Only.regrown [mb] _ p.d p.os).trans hu5
  clear hu5
  have h5 := hD.files hO5 (aput d.fs n { d.get n with b := (d.get n).b ++ data }) (by rw [aput_map]; exact hm5)
  have hw5 : Only [db, mb] w w5 := (((((Only.refl _ w).alloc _).trans ho1.of_nil)).alloc _).trans (hO5.mono (by simp))
  go_wp2_with (go_at_call 35; refine (done_any h5 hk2 hM).mono ?_; rintro e w6 ⟨rfl, h6⟩)
  go_ret
  exact ⟨rfl, Leads.step hw5 (fun g hg => .inl hg) h6⟩

theorem append_any {w : World} {db mb : Nat} {d : DS} {kv : Value} {M : Nat} (h : DiskAt w db mb d kv) (hk : d.Ok M) (n data : ByteArray) (hM : M + data.size ≤ 1125899906842624) :
    Calls Try.prog 11 #[.pointer (some ⟨db, 0, none⟩), .string n, .string data] w fun e w' => e = .returned (.int .i64 (d.append n data).1) ∧ Leads db mb w kv w' (d.append n data).2 := by
  unfold DS.append
  by_cases hm : d.may [n] = 0
  · rw [if_neg (by simp [hm])]
    cases hf : d.full n data.size
    · rw [if_neg (by simp)]
      exact append_go h hk n data hM hm hf
    · rw [if_pos rfl]
      exact append_full h hk (by omega) n data hm hf
  · rw [if_pos hm]
    exact append_may h n data hm
theorem append_nil (w : World) (n data : ByteArray) :
    Calls Try.prog 11 #[.pointer none, .string n, .string data] w fun e w' => e = .returned (.int .i64 14) ∧ Only [] w w' := by
  go_enter Try.func11, Try.ntmps11
  go_wp2_with (go_at_call 32; refine (may_nil _).mono ?_; rintro e w' ⟨rfl, rfl⟩)
  go_ret
  exact ⟨rfl, (Only.refl _ w).alloc _⟩
end Go.Proofs.Ytgahjdfjlfoioaa

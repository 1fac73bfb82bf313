/- Contracts: Rename. -/
import Derived.Test.YtgahjdfjlfoioaaDk10
namespace Go.Proofs.Ytgahjdfjlfoioaa
open Go.RowKit Go.Sort

theorem truncate_any {w : World} {db mb : Nat} {d : DS} {kv : Value} {M : Nat} (h : DiskAt w db mb d kv) (hk : d.Ok M) (hM : M ≤ 1125899906842624) (n : ByteArray) (k : Int) :
    Calls Try.prog 31 #[.pointer (some ⟨db, 0, none⟩), .string n, .int .i64 k] w fun e w' => e = .returned (.int .i64 (d.truncate n k).1) ∧ Leads db mb w kv w' (d.truncate n k).2 := by
  unfold DS.truncate
  by_cases he : (d.find n).2 = 0
  · rw [if_neg (by simp [he])]
    by_cases hr : k < 0 ∨ (d.get n).b.size < k
    · rw [if_pos hr]
      exact truncate_range h n k he hr
    · rw [if_neg hr]
      by_cases hd : d.doneE = 0
      · rw [if_neg (by simp [hd])]
        exact truncate_go h hk hM n k he (by omega) (by omega) hd
      · rw [if_pos hd]
        exact truncate_down h hk hM n k he (by omega) (by omega) hd
  · rw [if_pos he]
    exact truncate_err h n k he
theorem truncate_nil (w : World) (n : ByteArray) (k : Int) :
    Calls Try.prog 31 #[.pointer none, .string n, .int .i64 k] w fun e w' => e = .returned (.int .i64 14) ∧ Only [] w w' := by
  go_enter Try.func31, Try.ntmps31
  go_wp2_with (go_at_call 36; refine (find_nilv _ _).mono ?_; rintro e w1 ⟨rfl, ho1⟩)
  go_ret
  exact ⟨rfl, ho1.alloc _⟩

theorem slc_two {w : World} {g : Nat} {s t : ByteArray} {e : TypeId} (h : w.heap[g]? = some (.cells #[.string s, .string t] e (0, 0))) : Slc w 1 (.slice (some ⟨g, 0, none⟩) 2 2) [s, t].length (strs [s, t]) :=
  ⟨_, _, rfl, rfl, Nat.le_refl _, by unfold maxLen; omega, fun _ => ⟨_, 0, rfl, lt_of_block h, fun j hj => by
    rw [Nat.zero_add, cell_of_row _ _ _ _ _ _ h]
    simp [strs]⟩⟩

theorem rename_may {w : World} {db mb : Nat} {d : DS} {kv : Value} (h : DiskAt w db mb d kv) (m n : ByteArray) (hm : d.may [m, n] ≠ 0) :
    Calls Try.prog 24 #[.pointer (some ⟨db, 0, none⟩), .string m, .string n] w fun e w' => e = .returned (.int .i64 (d.may [m, n])) ∧ Leads db mb w kv w' d := by
  have hA : ∀ o1, DiskAt (w.alloc o1) db mb d kv := fun o1 => h.only0 ((Only.refl [] w).alloc o1)
  have hm1 : (d.may [m, n] != 0) = true := by simp [hm]
  clear hm
  go_enter Try.func24, Try.ntmps24
  go_wp2_with (go_at_call 32; refine (may_any (l := [m, n]) (hA _) (slc_two (heap_alloc_new _ _))).mono ?_; rintro e w' ⟨rfl, rfl⟩)
  go_ret
  exact ⟨rfl, Leads.of (hA _) ((Only.refl _ w).alloc _)⟩
theorem rename_err {w : World} {db mb : Nat} {d : DS} {kv : Value} (h : DiskAt w db mb d kv) (m n : ByteArray) (hm : d.may [m, n] = 0) (he : (d.find m).2 ≠ 0) :
    Calls Try.prog 24 #[.pointer (some ⟨db, 0, none⟩), .string m, .string n] w fun e w' => e = .returned (.int .i64 (d.find m).2) ∧ Leads db mb w kv w' d := by
  have hA : ∀ o1, DiskAt (w.alloc o1) db mb d kv := fun o1 => h.only0 ((Only.refl [] w).alloc o1)
  have hc := fun o => find_err (hA o) m he
  have HC := Lib.hid hc
  have hm1 : (d.may [m, n] != 0) = false := by simp [hm]
  have he1 : ((d.find m).2 != 0) = true := by simp [he]
  clear hm he hc
  go_enter Try.func24, Try.ntmps24
  go_wp2_with (first | (go_at_call 32; refine (may_any (l := [m, n]) (hA _) (slc_two (heap_alloc_new _ _))).mono ?_; rintro e w' ⟨rfl, rfl⟩) | (go_at_call 36; refine (HC.out _).mono ?_; rintro e w1 ⟨rfl, ho1⟩))
  go_ret
  exact ⟨rfl, Leads.of (((hA _).only0 ho1).only0 ((Only.refl [] w1).alloc _)) ((((Only.refl _ w).alloc _).trans ho1.of_nil).alloc _)⟩
theorem rename_down {w : World} {db mb : Nat} {d : DS} {kv : Value} {M : Nat} (h : DiskAt w db mb d kv) (hk : d.Ok M) (hM : M ≤ 1125899906842624) (m n : ByteArray) (hm : d.may [m, n] = 0) (he : (d.find m).2 = 0) (hd : d.doneE ≠ 0) :
    Calls Try.prog 24 #[.pointer (some ⟨db, 0, none⟩), .string m, .string n] w fun e w' => e = .returned (.int .i64 d.doneE) ∧ Leads db mb w kv w' d.done := by
  have hA : ∀ o1, DiskAt (w.alloc o1) db mb d kv := fun o1 => h.only0 ((Only.refl [] w).alloc o1)
  have hc := fun o => find_ok (hA o) m he
  have HC := Lib.hid hc
  have hm1 : (d.may [m, n] != 0) = false := by simp [hm]
  have he1 : (d.doneE != 0) = true := by simp [hd]
  clear hm he hc hd
  go_enter Try.func24, Try.ntmps24
  go_wp2_with (first | (go_at_call 32; refine (may_any (l := [m, n]) (hA _) (slc_two (heap_alloc_new _ _))).mono ?_; rintro e w' ⟨rfl, rfl⟩) | (go_at_call 36; refine (HC.out _).mono ?_; rintro e w1 ⟨rfl, ho1⟩; have hA1 := (hA _).only0 ho1) | (go_at_call 35; refine (done_any (hA1.only0 ((Only.refl [] w1).alloc _)) hk hM).mono ?_; rintro e w2 ⟨rfl, h2⟩))
  go_ret
  exact ⟨rfl, Leads.step ((((Only.refl _ w).alloc _).trans ho1.of_nil).alloc _) (fun g hg => .inl hg) h2⟩
set_option maxHeartbeats 1000000 in
theorem rename_go {w : World} {db mb : Nat} {d : DS} {kv : Value} {M : Nat} (h : DiskAt w db mb d kv) (hk : d.Ok M) (hM : M ≤ 1125899906842624) (m n : ByteArray) (hm : d.may [m, n] = 0) (he : (d.find m).2 = 0) (hd : d.doneE = 0) :
    Calls Try.prog 24 #[.pointer (some ⟨db, 0, none⟩), .string m, .string n] w fun e w' => e = .returned (.int .i64 0) ∧ Leads db mb w kv w' { d.done with fs := aput (adel d.done.fs m) n (d.get m) } := by
  have hA : ∀ o1, DiskAt (w.alloc o1) db mb d kv := fun o1 => h.only0 ((Only.refl [] w).alloc o1)
  have hns := (DS.may_short hm n (by simp)).2
  have hc := fun o => find_ok (hA o) m he
  have HC := Lib.hid hc
  have hm1 : (d.may [m, n] != 0) = false := by simp [hm]
  have hz : ∀ W, DiskAt W db mb d kv → Calls Try.prog 35 #[.pointer (some ⟨db, 0, none⟩)] W fun e w' => e = .returned (.int .i64 0) ∧ Leads db mb W kv w' d.done := fun W hW => by
    have := done_any hW hk hM
    rw [hd] at this
    exact this
  have HZ := Lib.hid hz
  clear hm he hc hd hz
  go_enter Try.func24, Try.ntmps24
  go_wp2_with (first | (go_at_call 32; refine (may_any (l := [m, n]) (hA _) (slc_two (heap_alloc_new _ _))).mono ?_; rintro e w' ⟨rfl, rfl⟩) | (go_at_call 36; refine (HC.out _).mono ?_; rintro e w1 ⟨rfl, ho1⟩; have hA1 := (hA _).only0 ho1; have hb1 := fun o : Obj => (Only.refl [] w1).alloc o; have hw1 := ((Only.refl [db, mb] w).alloc _).trans ho1.of_nil) | (go_at_call 35; refine (HZ.out _ (hA1.only0 (hb1 _))).mono ?_; rintro e w2 ⟨rfl, kv2, h2, hk2, ho2⟩; have hn1 : w1.heap.size ∉ [db, mb] := (by have q1 := hA1.blk.lt; have q2 := hA1.map.lt; simp; omega); have hbx := ho2.blk (Blk.new w1 61 #[.string (d.get m).b, .int .i64 (d.get m).lasts, .bool (d.get m).known]) hn1; have d2 : w2.cell? ⟨db, 2, none⟩ = some (.map (some mb)) := h2.blk.cell 2) | (at_delete; refine wpList_delete_is rfl 55 9 rfl keyEnc_string Try.underlying55 Try.underlying9 m rfl rfl h2.map ?_; intro w3 hm3 hu3; have d3 : w3.cell? ⟨db, 2, none⟩ = some (.map (some mb)) := (h2.files hu3 (adel d.done.fs m) (by rw [adel_map]; exact hm3)).blk.cell 2))
  go_frame
  have hw2 : Only [db, mb] w w3 := ((hw1.alloc _).trans ho2).trans (hu3.mono (by simp))
  have hD := h2.files hu3 (adel d.done.fs m) (by rw [adel_map]; exact hm3)
  have hB := hu3.blk hbx (by simp at hn1; simp; exact hn1.2)
  have g2 : ∀ (e : Nat) (os : Array Obj), World.cell? (grow (redrawn _ e) os) ⟨db, 2, none⟩ = some (.map (some mb)) := fun e os => cell_regrown (hD.blk.cell 2) e os
  have b0 : ∀ (e : Nat) (os : Array Obj), World.cell? (grow (redrawn _ e) os) ⟨w1.heap.size, 0, none⟩ = some _ := fun e os => cell_regrown (hB.cell 0) e os
  have b1 : ∀ (e : Nat) (os : Array Obj), World.cell? (grow (redrawn _ e) os) ⟨w1.heap.size, 1, none⟩ = some _ := fun e os => cell_regrown (hB.cell 1) e os
  have b2 : ∀ (e : Nat) (os : Array Obj), World.cell? (grow (redrawn _ e) os) ⟨w1.heap.size, 2, none⟩ = some _ := fun e os => cell_regrown (hB.cell 2) e os
  have hMW : ∀ (e : Nat) (os : Array Obj), MapIs Value.string (grow (redrawn _ e) os) mb (fvals (adel d.done.fs m)) := fun e os => hD.map.only (Only.regrown [] _ e os) (by simp)
  have hC : ∀ W : World, Calls Try.prog 34 #[.string n] W fun e w' => e = .returned (.string n) ∧ Only [] W w' := fun W => strClone_any n W (by omega)
  have HCC := Lib.hid hC
  clear hC
  refine wp_region_btail 7 (by kernel_rfl) (by kernel_rfl) ?_
  simp only [List.take_succ_cons, List.take_zero]
  repeat (go_big_quiet_step ((go_at_call 34; exact Calls.regrown_only (HCC.out _))))
  refine wpQuiet_nil ?_
  rintro _ ⟨p, rfl⟩
  simp only [List.drop_succ_cons, List.drop_zero]
  refine wpList_update_is rfl 55 rfl keyEnc_string Try.underlying55 Try.underlying9 n (.agg #[.string (d.get m).b, .int .i64 (d.get m).lasts, .bool (d.get m).known]) rfl rfl rfl (hMW p.d p.os) ?_
  intro w5 hm5 hu5
  have hO5 := (Only.regrown [mb] _ p.d p.os).trans hu5
  clear hu5
  go_wp2
  go_ret
  refine ⟨rfl, kv2, hD.files hO5 (aput (adel d.done.fs m) n (d.get m)) (by rw [aput_map]; exact hm5), ?_, hw2.trans (hO5.mono (by simp))⟩
  intro g hg
  rcases hk2 g hg with q | q
  · exact .inl q
  · right; simp at q; have := hw1.size; omega
theorem rename_any {w : World} {db mb : Nat} {d : DS} {kv : Value} {M : Nat} (h : DiskAt w db mb d kv) (hk : d.Ok M) (hM : M ≤ 1125899906842624) (m n : ByteArray) :
    Calls Try.prog 24 #[.pointer (some ⟨db, 0, none⟩), .string m, .string n] w fun e w' => e = .returned (.int .i64 (d.rename m n).1) ∧ Leads db mb w kv w' (d.rename m n).2 := by
  unfold DS.rename
  by_cases hm : d.may [m, n] = 0
  · rw [if_neg (by simp [hm])]
    by_cases he : (d.find m).2 = 0
    · rw [if_neg (by simp [he])]
      by_cases hd : d.doneE = 0
      · rw [if_neg (by simp [hd])]
        exact rename_go h hk hM m n hm he hd
      · rw [if_pos hd]
        exact rename_down h hk hM m n hm he hd
    · rw [if_pos he]
      exact rename_err h m n hm he
  · rw [if_pos hm]
    exact rename_may h m n hm
theorem rename_nil (w : World) (m n : ByteArray) :
    Calls Try.prog 24 #[.pointer none, .string m, .string n] w fun e w' => e = .returned (.int .i64 14) ∧ Only [] w w' := by
  go_enter Try.func24, Try.ntmps24
  go_wp2_with (go_at_call 32; refine (may_nil _).mono ?_; rintro e w' ⟨rfl, rfl⟩)
  go_ret
  exact ⟨rfl, (Only.refl _ w).alloc _⟩
end Go.Proofs.Ytgahjdfjlfoioaa

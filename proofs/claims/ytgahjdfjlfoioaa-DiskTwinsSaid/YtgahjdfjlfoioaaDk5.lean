/- Contract: full. -/
import Derived.Test.YtgahjdfjlfoioaaDk4
import Derived.Deep.QuietTactic
import Derived.BigQuiet
import Derived.Lib.QuietBelow
namespace Go.Proofs.Ytgahjdfjlfoioaa
open Go.RowKit Go.Sort

theorem full_1 {w : World} {db mb : Nat} {d : DS} {kv : Value} (h : DiskAt w db mb d kv) (n s : ByteArray) (hi : (aget d.fs n).isSome = false) (hl : 200 ≤ d.fs.length) :
    Calls Try.prog 33 #[.pointer (some ⟨db, 0, none⟩), .string n, .string s] w fun e w' => e = .returned (.bool true) ∧ Only [] w w' := by
  have c2 : ∀ o1, (w.alloc o1).cell? ⟨db, 2, none⟩ = some (.map (some mb)) := fun o1 => (h.only ((Only.refl [] w).alloc o1) (by simp) (by simp) (by simp)).blk.cell 2
  have c20 : w.cell? ⟨db, 2, none⟩ = some (.map (some mb)) := h.blk.cell 2
  have hlen : ∀ o1 k, (Builtin.len_ #[55] 3 #[.map (some mb)]).run Try.prog ((w.alloc o1).drewN k) = .ok (.int .i64 d.fs.length) ((w.alloc o1).drewN k) := fun o1 k => by
    have := MapIs.len (P := Try.prog) Try.underlying55 (w := (w.alloc o1).drewN k) (h.map.of_eq (Below.heap_alloc _ o1 _ h.map.lt)) 3
    simpa using this
  have hd : decide ((200 : Int) ≤ (d.fs.length : Int)) = true := by simp; omega
  clear hl
  go_enter Try.func33, Try.ntmps33
  go_wp2_with (at_lookup; refine wpList_lookup_ok_is rfl 55 rfl keyEnc_string Try.underlying55 Try.underlying9 (zeroFile _) n rfl rfl h.map _ _ (getV n) ((isV n).trans hi) ?_)
  go_quiet (fail)
  go_wp2
  go_ret
  exact ⟨rfl, ((Only.refl [] w).alloc _).drewN _⟩

theorem full_2 {w : World} {db mb : Nat} {d : DS} {kv : Value} (h : DiskAt w db mb d kv) (n s : ByteArray) (hi : (aget d.fs n).isSome = true ∨ d.fs.length < 200) (hr : d.room ≤ 0) :
    Calls Try.prog 33 #[.pointer (some ⟨db, 0, none⟩), .string n, .string s] w fun e w' => e = .returned (.bool false) ∧ Only [] w w' := by
  have c1 : ∀ o1, (w.alloc o1).cell? ⟨db, 1, none⟩ = some (.int .i64 d.room) := fun o1 => (h.only ((Only.refl [] w).alloc o1) (by simp) (by simp) (by simp)).blk.cell 1
  have c2 : ∀ o1, (w.alloc o1).cell? ⟨db, 2, none⟩ = some (.map (some mb)) := fun o1 => (h.only ((Only.refl [] w).alloc o1) (by simp) (by simp) (by simp)).blk.cell 2
  have c20 : w.cell? ⟨db, 2, none⟩ = some (.map (some mb)) := h.blk.cell 2
  have hlen : ∀ o1 k, (Builtin.len_ #[55] 3 #[.map (some mb)]).run Try.prog ((w.alloc o1).drewN k) = .ok (.int .i64 d.fs.length) ((w.alloc o1).drewN k) := fun o1 k => by
    have := MapIs.len (P := Try.prog) Try.underlying55 (w := (w.alloc o1).drewN k) (h.map.of_eq (Below.heap_alloc _ o1 _ h.map.lt)) 3
    simpa using this
  have hd0 : decide ((0 : Int) < d.room) = false := by simp; omega
  cases hi1 : (aget d.fs n).isSome
  · have hd : decide ((200 : Int) ≤ (d.fs.length : Int)) = false := by simp [hi1] at hi; simp; omega
    clear hr hi
    go_enter Try.func33, Try.ntmps33
    go_wp2_with (at_lookup; refine wpList_lookup_ok_is rfl 55 rfl keyEnc_string Try.underlying55 Try.underlying9 (zeroFile _) n rfl rfl h.map _ _ (getV n) ((isV n).trans hi1) ?_)
    go_quiet (fail)
    go_wp2
    go_ret
    exact ⟨rfl, ((Only.refl [] w).alloc _).drewN _⟩
  · clear hr hi
    go_enter Try.func33, Try.ntmps33
    go_wp2_with (at_lookup; refine wpList_lookup_ok_is rfl 55 rfl keyEnc_string Try.underlying55 Try.underlying9 (zeroFile _) n rfl rfl h.map _ _ (getV n) ((isV n).trans hi1) ?_)
    go_quiet (fail)
    go_wp2
    go_ret
    exact ⟨rfl, ((Only.refl [] w).alloc _).drewN _⟩

theorem DiskAt.drew {w : World} {db mb : Nat} {d : DS} {kv : Value} (h : DiskAt w db mb d kv) : DiskAt w.drew db mb d kv := h.only ((Only.refl [] w).drew) (by simp) (by simp) (by simp)
theorem DiskAt.only0 {w w' : World} {db mb : Nat} {d : DS} {kv : Value} (h : DiskAt w db mb d kv) (k : Only [] w w') : DiskAt w' db mb d kv := h.only k (by simp) (by simp) (by simp)
theorem full_3 {w : World} {db mb : Nat} {d : DS} {kv : Value} {M : Nat} (h : DiskAt w db mb d kv) (hM : sizes d.fs ≤ M) (hM2 : M ≤ 4611686018427387904) (n s : ByteArray) (hi : (aget d.fs n).isSome = true ∨ d.fs.length < 200) (hr : 0 < d.room) :
    Calls Try.prog 33 #[.pointer (some ⟨db, 0, none⟩), .string n, .string s] w fun e w' => e = .returned (.bool (decide (d.room - d.used < (s.size : Int)))) ∧ Only [] w w' := by
  have c20 : w.cell? ⟨db, 2, none⟩ = some (.map (some mb)) := h.blk.cell 2
  have hd0 : decide ((0 : Int) < d.room) = true := by simp; omega
  have hroom := h.room
  have hu0 : 0 ≤ d.used := by unfold DS.used; omega
  have hu1 : d.used ≤ 4611686018427387904 := by unfold DS.used; unfold sizes at hM; omega
  have hA : ∀ o1, DiskAt (w.alloc o1) db mb d kv := fun o1 => h.only ((Only.refl [] w).alloc o1) (by simp) (by simp) (by simp)
  have hG : ∀ o1 e os, DiskAt (grow (redrawn (w.alloc o1) e) os) db mb d kv := fun o1 e os => (hA o1).only0 (Only.of_below (below_regrown _ _ _) (Nat.le_refl _))
  have hc1 : ∀ o1 e os, (grow (redrawn (w.alloc o1) e) os).cell? ⟨db, 1, none⟩ = some (.int .i64 d.room) := fun o1 e os => (hG o1 e os).blk.cell 1
  have hc2 : ∀ o1 e os, (grow (redrawn (w.alloc o1) e) os).cell? ⟨db, 2, none⟩ = some (.map (some mb)) := fun o1 e os => (hG o1 e os).blk.cell 2
  have hlen : ∀ o1 e os, (Builtin.len_ #[55] 3 #[.map (some mb)]).run Try.prog (grow (redrawn (w.alloc o1) e) os) = .ok (.int .i64 d.fs.length) (grow (redrawn (w.alloc o1) e) os) := fun o1 e os => by
    have := MapIs.len (P := Try.prog) Try.underlying55 (hG o1 e os).map 3
    simpa using this
  have hU : ∀ o1 e os, Calls Try.prog 12 #[.pointer (some ⟨db, 0, none⟩)] (grow (redrawn (w.alloc o1) e) os) fun e' w' => e' = .returned (.int .i64 d.used) ∧ Below (grow (redrawn (w.alloc o1) e) os).heap.size (grow (redrawn (w.alloc o1) e) os) w' :=
    fun o1 e os => (used_any (hG o1 e os) hM hM2).mono fun e' w' ⟨h1, h2⟩ => ⟨h1, h2.toBelow⟩
  have HU := Lib.hid hU
  have hfin : ∀ o1 W2, Below (w.alloc o1).heap.size (w.alloc o1) W2 → Only [] w W2 := fun o1 W2 hb => ((Only.refl [] w).alloc o1).below hb (Nat.le_refl _)
  have hw : wrap64 (d.room - d.used) = d.room - d.used := IntWalk.wrap64_in _ ⟨by omega, by omega⟩
  have HW := Lib.hid hw
  clear hU hM hw
  cases hi1 : (aget d.fs n).isSome
  · have hd : decide ((200 : Int) ≤ (d.fs.length : Int)) = false := by simp [hi1] at hi; simp; omega
    clear hr hi
    go_enter Try.func33, Try.ntmps33
    go_wp2_with (at_lookup; refine wpList_lookup_ok_is rfl 55 rfl keyEnc_string Try.underlying55 Try.underlying9 (zeroFile _) n rfl rfl h.map _ _ (getV n) ((isV n).trans hi1) ?_)
    refine wp_region_quiet_below (by kernel_rfl) (by kernel_rfl) ?_
    repeat (go_big_quiet_step ((go_at_call 12; exact Calls.regrown_of (HU.out _ _ _))))
    refine wpQuiet_nil ?_
    rintro _ ⟨p, rfl⟩
    go_wp2
    go_ret
    refine ⟨?_, hfin _ _ (below_regrown _ _ _)⟩
    show Ending.returned (.bool (decide (wrap64 (d.room - d.used) < (s.size : Int)))) = _
    rw [HW.out]
  · clear hr hi
    go_enter Try.func33, Try.ntmps33
    go_wp2_with (at_lookup; refine wpList_lookup_ok_is rfl 55 rfl keyEnc_string Try.underlying55 Try.underlying9 (zeroFile _) n rfl rfl h.map _ _ (getV n) ((isV n).trans hi1) ?_)
    refine wp_region_quiet_below (by kernel_rfl) (by kernel_rfl) ?_
    repeat (go_big_quiet_step ((go_at_call 12; exact Calls.regrown_of (HU.out _ _ _))))
    refine wpQuiet_nil ?_
    rintro _ ⟨p, rfl⟩
    go_wp2
    go_ret
    refine ⟨?_, hfin _ _ (below_regrown _ _ _)⟩
    show Ending.returned (.bool (decide (wrap64 (d.room - d.used) < (s.size : Int)))) = _
    rw [HW.out]

theorem full_any {w : World} {db mb : Nat} {d : DS} {kv : Value} {M : Nat} (h : DiskAt w db mb d kv) (hM : sizes d.fs ≤ M) (hM2 : M ≤ 4611686018427387904) (n s : ByteArray) :
    Calls Try.prog 33 #[.pointer (some ⟨db, 0, none⟩), .string n, .string s] w fun e w' => e = .returned (.bool (d.full n s.size)) ∧ Only [] w w' := by
  by_cases h1 : (aget d.fs n).isSome = false ∧ 200 ≤ d.fs.length
  · have e : d.full n s.size = true := by simp [DS.full, h1.1, h1.2]
    rw [e]
    exact full_1 h n s h1.1 h1.2
  · have h2 : (aget d.fs n).isSome = true ∨ d.fs.length < 200 := by
      cases hi : (aget d.fs n).isSome
      · right; exact Nat.lt_of_not_le fun q => h1 ⟨hi, q⟩
      · left; rfl
    by_cases h3 : 0 < d.room
    · have e : d.full n s.size = decide (d.room - d.used < (s.size : Int)) := by
        unfold DS.full
        have : (!(aget d.fs n).isSome && decide (200 ≤ d.fs.length)) = false := by
          rcases h2 with q | q
          · simp [q]
          · simp; intro _; omega
        rw [this]
        simp [h3]
      rw [e]
      exact full_3 h hM hM2 n s h2 h3
    · have e : d.full n s.size = false := by
        unfold DS.full
        have : (!(aget d.fs n).isSome && decide (200 ≤ d.fs.length)) = false := by
          rcases h2 with q | q
          · simp [q]
          · simp; intro _; omega
        rw [this]
        simp [h3]
      rw [e]
      exact full_2 h n s h2 (by omega)
end Go.Proofs.Ytgahjdfjlfoioaa

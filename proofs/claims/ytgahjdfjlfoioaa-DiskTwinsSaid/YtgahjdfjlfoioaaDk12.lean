/- Contracts: Read, Size, Restore, Room, Unsynced, New. -/
import Derived.Test.YtgahjdfjlfoioaaDk9
namespace Go.Proofs.Ytgahjdfjlfoioaa
open Go.RowKit Go.Sort

theorem size_any {w : World} {db mb : Nat} {d : DS} {kv : Value} (h : DiskAt w db mb d kv) (n : ByteArray) :
    Calls Try.prog 21 #[.pointer (some ⟨db, 0, none⟩), .string n] w fun e w' => e = .returned (.tuple #[.int .i64 (d.size n).1, .int .i64 (d.size n).2]) ∧ Only [] w w' := by
  have hc : Calls Try.prog 36 #[.pointer (some ⟨db, 0, none⟩), .string n] w fun e w' => e = .returned (.tuple #[.agg #[.string (d.find n).1.b, .int .i64 (d.find n).1.lasts, .bool (d.find n).1.known], .int .i64 (d.find n).2]) ∧ Only [] w w' := find_any h n
  have HC := Lib.hid hc
  clear hc
  go_enter Try.func21, Try.ntmps21
  go_wp2_with (go_at_call 36; refine HC.out.mono ?_; rintro e w1 ⟨rfl, ho1⟩)
  go_ret2
  exact ⟨rfl, ho1.alloc _⟩
theorem size_nil (w : World) (n : ByteArray) :
    Calls Try.prog 21 #[.pointer none, .string n] w fun e w' => e = .returned (.tuple #[.int .i64 0, .int .i64 14]) ∧ Only [] w w' := by
  go_enter Try.func21, Try.ntmps21
  go_wp2_with (go_at_call 36; refine (find_nilv _ _).mono ?_; rintro e w1 ⟨rfl, ho1⟩)
  go_ret2
  exact ⟨rfl, ho1.alloc _⟩

theorem read_err {w : World} {db mb : Nat} {d : DS} {kv : Value} (h : DiskAt w db mb d kv) (n : ByteArray) (a k : Int) (he : (d.find n).2 ≠ 0) :
    Calls Try.prog 20 #[.pointer (some ⟨db, 0, none⟩), .string n, .int .i64 a, .int .i64 k] w fun e w' => e = .returned (.tuple #[.string ⟨#[]⟩, .int .i64 (d.find n).2]) ∧ Only [] w w' := by
  have hc := find_err h n he
  have HC := Lib.hid hc
  have he1 : ((d.find n).2 != 0) = true := by simp [he]
  clear hc he
  go_enter Try.func20, Try.ntmps20
  go_wp2_with (go_at_call 36; refine HC.out.mono ?_; rintro e w1 ⟨rfl, ho1⟩)
  go_ret2
  exact ⟨rfl, ho1.alloc _⟩
theorem read_nil (w : World) (n : ByteArray) (a k : Int) :
    Calls Try.prog 20 #[.pointer none, .string n, .int .i64 a, .int .i64 k] w fun e w' => e = .returned (.tuple #[.string ⟨#[]⟩, .int .i64 14]) ∧ Only [] w w' := by
  go_enter Try.func20, Try.ntmps20
  go_wp2_with (go_at_call 36; refine (find_nilv _ _).mono ?_; rintro e w1 ⟨rfl, ho1⟩)
  go_ret2
  exact ⟨rfl, ho1.alloc _⟩
set_option maxHeartbeats 1000000 in
theorem read_range {w : World} {db mb : Nat} {d : DS} {kv : Value} (h : DiskAt w db mb d kv) (n : ByteArray) (a k : Int) (hs : (d.get n).b.size ≤ 1125899906842624) (he : (d.find n).2 = 0) (hr : a < 0 ∨ k < 0 ∨ (d.get n).b.size < a ∨ (d.get n).b.size - a < k) :
    Calls Try.prog 20 #[.pointer (some ⟨db, 0, none⟩), .string n, .int .i64 a, .int .i64 k] w fun e w' => e = .returned (.tuple #[.string ⟨#[]⟩, .int .i64 15]) ∧ Only [] w w' := by
  have hc := find_ok h n he
  have HC := Lib.hid hc
  clear hc he
  rcases (by omega : a < 0 ∨ (0 ≤ a ∧ k < 0) ∨ (0 ≤ a ∧ 0 ≤ k ∧ (d.get n).b.size < a) ∨ (0 ≤ a ∧ 0 ≤ k ∧ a ≤ (d.get n).b.size ∧ (d.get n).b.size - a < k)) with h1 | ⟨h1, h2⟩ | ⟨h1, h2, h3⟩ | ⟨h1, h2, h3, h4⟩ <;> clear hr
  all_goals
    go_enter Try.func20, Try.ntmps20
    go_wp2_with (go_at_call 36; refine HC.out.mono ?_; rintro e w1 ⟨rfl, ho1⟩)
    go_ret2
    exact ⟨rfl, ho1.alloc _⟩
set_option maxHeartbeats 1000000 in
theorem read_ok {w : World} {db mb : Nat} {d : DS} {kv : Value} (h : DiskAt w db mb d kv) (n : ByteArray) (a k : Int) (hs : (d.get n).b.size ≤ 1125899906842624) (he : (d.find n).2 = 0) (h1 : 0 ≤ a) (h2 : 0 ≤ k) (h3 : a ≤ (d.get n).b.size) (h4 : k ≤ (d.get n).b.size - a) :
    Calls Try.prog 20 #[.pointer (some ⟨db, 0, none⟩), .string n, .int .i64 a, .int .i64 k] w fun e w' => e = .returned (.tuple #[.string ((d.get n).b.extract a.toNat (a + k).toNat), .int .i64 0]) ∧ Only [] w w' := by
  have hc := find_ok h n he
  have HC := Lib.hid hc
  clear hc he
  go_enter Try.func20, Try.ntmps20
  go_wp2_with (go_at_call 36; refine HC.out.mono ?_; rintro e w1 ⟨rfl, ho1⟩)
  go_ret2
  exact ⟨rfl, ho1.alloc _⟩
theorem read_any {w : World} {db mb : Nat} {d : DS} {kv : Value} (h : DiskAt w db mb d kv) (n : ByteArray) (a k : Int) (hs : (d.get n).b.size ≤ 1125899906842624) :
    Calls Try.prog 20 #[.pointer (some ⟨db, 0, none⟩), .string n, .int .i64 a, .int .i64 k] w fun e w' => e = .returned (.tuple #[.string (d.read n a k).1, .int .i64 (d.read n a k).2]) ∧ Only [] w w' := by
  unfold DS.read
  by_cases he : (d.find n).2 = 0
  · rw [if_neg (by simp [he])]
    by_cases hr : a < 0 ∨ k < 0 ∨ (d.get n).b.size < a ∨ (d.get n).b.size - a < k
    · rw [if_pos hr]
      exact read_range h n a k hs he hr
    · rw [if_neg hr]
      exact read_ok h n a k hs he (by omega) (by omega) (by omega) (by omega)
  · rw [if_pos he]
    exact read_err h n a k he

theorem restore_any {w : World} {db mb : Nat} {d : DS} {kv : Value} (h : DiskAt w db mb d kv) :
    Calls Try.prog 19 #[.pointer (some ⟨db, 0, none⟩)] w fun e w' => e = .returned (.tuple #[]) ∧ DiskAt w' db mb d.restore kv ∧ Only [db] w w' := by
  have c0 : w.cell? ⟨db, 0, none⟩ = some (.bool d.on) := h.blk.cell 0
  have c2 : w.cell? ⟨db, 2, none⟩ = some (.map (some mb)) := h.blk.cell 2
  have f0 := h.blk.free 0
  have hne := fun w => run_neq_map_nil (P := Try.prog) w 55 _ _ (some mb) Try.underlying55
  go_enter Try.func19, Try.ntmps19
  go_wp2
  go_end0
  have ho : Only [db] w (w.setCell ⟨db, 0, none⟩ (.bool true)) := (Only.refl _ w).setCell (.inl (by simp)) _
  exact ⟨rfl, ⟨h.blk.set 0 _, h.map.only ho (by simp; exact h.ne), h.slc.only ho (fun g hg => by simp [(h.apart g hg).1]), h.apart, h.left, h.room, fun g hg => Nat.lt_of_lt_of_le (h.old g hg) ho.size⟩, ho⟩
theorem restore_nil (w : World) : Calls Try.prog 19 #[.pointer none] w fun e w' => e = .returned (.tuple #[]) ∧ w = w' := by
  go_enter Try.func19, Try.ntmps19
  go_wp2
  go_end0
  exact ⟨rfl, rfl⟩
theorem room_any {w : World} {db mb : Nat} {d : DS} {kv : Value} (h : DiskAt w db mb d kv) {n : Int} (hn : -9223372036854775808 ≤ n ∧ n ≤ 9223372036854775807) :
    Calls Try.prog 30 #[.pointer (some ⟨db, 0, none⟩), .int .i64 n] w fun e w' => e = .returned (.tuple #[]) ∧ DiskAt w' db mb { d with room := n } kv ∧ Only [db] w w' := by
  have c1 : w.cell? ⟨db, 1, none⟩ = some (.int .i64 d.room) := h.blk.cell 1
  have f1 := h.blk.free 1
  go_enter Try.func30, Try.ntmps30
  go_wp2
  go_end0
  have ho : Only [db] w (w.setCell ⟨db, 1, none⟩ (.int .i64 n)) := (Only.refl _ w).setCell (.inl (by simp)) _
  exact ⟨rfl, ⟨h.blk.set 1 _, h.map.only ho (by simp; exact h.ne), h.slc.only ho (fun g hg => by simp [(h.apart g hg).1]), h.apart, h.left, hn, fun g hg => Nat.lt_of_lt_of_le (h.old g hg) ho.size⟩, ho⟩
theorem room_nil (w : World) (n : Int) : Calls Try.prog 30 #[.pointer none, .int .i64 n] w fun e w' => e = .returned (.tuple #[]) ∧ w = w' := by
  go_enter Try.func30, Try.ntmps30
  go_wp2
  go_end0
  exact ⟨rfl, rfl⟩
theorem unsynced_any {w : World} {db mb : Nat} {d : DS} {kv : Value} {M : Nat} (h : DiskAt w db mb d kv) (hk : Fs d.fs M) (hM : M ≤ 1125899906842624) (n : ByteArray) :
    Calls Try.prog 17 #[.pointer (some ⟨db, 0, none⟩), .string n] w fun e w' => e = .returned (.int .i64 (d.unsynced n)) ∧ Only [] w w' := by
  have c2 : w.cell? ⟨db, 2, none⟩ = some (.map (some mb)) := h.blk.cell 2
  obtain ⟨q1, q2, q3⟩ : 0 ≤ (d.get n).lasts ∧ (d.get n).lasts ≤ (d.get n).b.size ∧ (d.get n).b.size ≤ M := hk.fok.get n
  go_enter Try.func17, Try.ntmps17
  go_wp2_with (at_lookup; refine wpList_lookup_is rfl 55 rfl keyEnc_string Try.underlying55 Try.underlying9 (zeroFile _) n rfl rfl h.map _ (getV n) ?_)
  go_ret
  exact ⟨rfl, (Only.refl _ w).alloc _⟩
theorem unsynced_nil (w : World) (n : ByteArray) : Calls Try.prog 17 #[.pointer none, .string n] w fun e w' => e = .returned (.int .i64 0) ∧ w = w' := by
  go_enter Try.func17, Try.ntmps17
  go_wp2
  go_ret
  exact ⟨rfl, rfl⟩
theorem new_any (w : World) {room : Int} (hr : -9223372036854775808 ≤ room ∧ room ≤ 9223372036854775807) :
    Calls Try.prog 10 #[.int .i64 room] w fun e w' => e = .returned (.pointer (some ⟨w.heap.size + 1, 0, none⟩)) ∧ DiskAt w' (w.heap.size + 1) w.heap.size (DS.new room) (.slice none 0 0) ∧ Only [] w w' := by
  have hmm := @run_makeMap Try.prog
  go_enter Try.func10, Try.ntmps10
  go_wp2
  go_ret
  refine ⟨rfl, ⟨?_, ?_, ?_, ?_, ?_, hr, ?_⟩, ((Only.refl _ w).alloc _).alloc _⟩
  · exact heap_alloc2_new _ _ _
  · exact (MapIs.new Value.string w).alloc _
  · exact Slc.nil _ _
  · intro g hg; cases hg
  · simp [DS.new]
  · intro g hg; cases hg
end Go.Proofs.Ytgahjdfjlfoioaa

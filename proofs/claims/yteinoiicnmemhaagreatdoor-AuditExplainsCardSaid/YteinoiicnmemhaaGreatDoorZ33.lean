/- Proved here: contracts of functions and plain laws, part 33 of one proof. Conditions: each theorem names its own. -/
import Derived.Test.YteinoiicnmemhaaGreatDoorZ6
import Derived.Test.YteinoiicnmemhaaGreatDoorZ32
import Derived.BigRegion
namespace Go.Proofs.YteinoiicnmemhaaGreatDoor.J
section
open Go.RowKit Go.Sort

theorem size_any {w : World} {db mb : Nat} {d : DS} {kv : Value} (h : DiskAt w db mb d kv) (n : ByteArray) :
    Calls Tryz.prog 125 #[.pointer (some ⟨db, 0, none⟩), .string n] w fun e w' => e = .returned (.tuple #[.int .i64 (d.size n).1, .int .i64 (d.size n).2]) ∧ Only [] w w' := by
  have hc : Calls Tryz.prog 151 #[.pointer (some ⟨db, 0, none⟩), .string n] w fun e w' => e = .returned (.tuple #[.agg #[.string (d.find n).1.b, .int .i64 (d.find n).1.lasts, .bool (d.find n).1.known], .int .i64 (d.find n).2]) ∧ Only [] w w' := find_any h n
  have HC := Lib.hid hc
  clear hc
  go_enter Tryz.func125, Tryz.ntmps125
  go_wp2_with (go_at_call 151; refine HC.out.mono ?_; rintro e w1 ⟨rfl, ho1⟩)
  go_ret2
  exact ⟨rfl, ho1.alloc _⟩
theorem new_any (w : World) {room : Int} (hr : -9223372036854775808 ≤ room ∧ room ≤ 9223372036854775807) :
    Calls Tryz.prog 49 #[.int .i64 room] w fun e w' => e = .returned (.pointer (some ⟨w.heap.size + 1, 0, none⟩)) ∧ DiskAt w' (w.heap.size + 1) w.heap.size (DS.new room) (.slice none 0 0) ∧ Only [] w w' := by
  have hmm := @run_makeMap Tryz.prog
  go_enter Tryz.func49, Tryz.ntmps49
  go_wp2
  go_ret
  refine ⟨rfl, ⟨?_, ?_, ?_, ?_, ?_, hr, ?_⟩, ((Only.refl _ w).alloc _).alloc _⟩
  · exact heap_alloc2_new _ _ _
  · exact (MapIs.new Value.string w).alloc _
  · exact Slc.nil _ _
  · intro g hg; cases hg
  · simp [DS.new]
  · intro g hg; cases hg
end
end Go.Proofs.YteinoiicnmemhaaGreatDoor.J

/- Proved here: contracts of functions and plain laws, part 36 of one proof. Conditions: each theorem names its own. -/
import Derived.Test.YteinoiicnmemhaaGreatDoorZ1
import Derived.Test.YteinoiicnmemhaaGreatDoorZ2
import Derived.Test.YteinoiicnmemhaaGreatDoorZ6
import Derived.Test.YteinoiicnmemhaaGreatDoorZ8
import Derived.Test.YteinoiicnmemhaaGreatDoorZ31
import Derived.Test.YteinoiicnmemhaaGreatDoorZ32
import Derived.Test.YteinoiicnmemhaaGreatDoorZ33
import Derived.Lib.LaidTab
import Derived.Lib.ItoaLen
import Derived.Handy
import Derived.BigQuiet
import Derived.Laws.BytesArg
import Derived.Lib.ConvBytes
import Derived.Test.YteinoiicnmemhaaGreatDoorProg
import Derived.Deep.AppendLies
import Derived.Lib.AppendZeros
import Derived.RegionTactic
import Derived.ChangeAlike
import Derived.Lib.ItoaMem
import Derived.BigRegion
set_option linter.unusedSimpArgs false
set_option linter.unusedVariables false
namespace Go.Proofs.YteinoiicnmemhaaGreatDoor.J
section
open Go Go.RowKit Go.Sort Go.Lib Go.Shelf
/-- The table of the powers of ten is as the program's text lays it. -/
def Tab (w : World) : Prop := Lib.TabIs Tryz.prog w "internal/strconv.uint64pow10" .u64 Lib.pow10Tab
theorem Tab.only {w w' : World} (h : Tab w) (k : Only [] w w') : Tab w' := by
  unfold Tab Lib.TabIs World.var? at *
  obtain ⟨g, hg, h2⟩ := Option.bind_eq_some_iff.1 h
  rw [hg]
  simp only [Option.bind_some]
  cases q : w.heap[g]? with
  | none => rw [q] at h2; cases h2
  | some o =>
    have hlt : g < w.heap.size := (Array.getElem?_eq_some_iff.1 q).1
    rw [k.block g hlt (by simp)]
    exact h2
end
end Go.Proofs.YteinoiicnmemhaaGreatDoor.J

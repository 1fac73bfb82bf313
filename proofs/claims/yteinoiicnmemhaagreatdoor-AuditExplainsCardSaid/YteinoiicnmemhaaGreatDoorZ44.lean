/- Proved here: contracts of functions and plain laws, part 44 of one proof. Conditions: each theorem names its own. -/
import Derived.Test.YteinoiicnmemhaaGreatDoorZ40
import Derived.Test.YteinoiicnmemhaaGreatDoorZ41
set_option linter.unusedSimpArgs false
set_option linter.unusedVariables false
namespace Go.Proofs.YteinoiicnmemhaaGreatDoor
section
open Go.RowKit Go Go.Sort
section
variable {a w w' : World} {X X' H K E E' : List Nat} {sb mb ra rb N N' : Nat} {s s' : MS} {r r' t t' : RS}
theorem docNew {g : Nat} (ha : Only [] a w) (hg : a.heap.size ≤ g) (h : Blk w g 31 #[.slice none 0 0, .slice none 0 0, .int .i64 0, .int .i64 0]) : HasD a w [g] g RS.new :=
  ⟨⟨.slice none 0 0, .slice none 0 0, ⟨h, World.ownsRow_nil _ _ _ _, World.ownsRow_nil _ _ _ _⟩, rfl⟩, ha, fun b q => by simp at q; omega⟩
theorem likeNew : Like MS.new RS.new 0 := ⟨alike_new, inv2_new, few_new, Nat.le_refl _⟩
end
end
end Go.Proofs.YteinoiicnmemhaaGreatDoor

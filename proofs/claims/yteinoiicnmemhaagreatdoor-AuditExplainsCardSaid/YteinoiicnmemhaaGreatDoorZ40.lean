/- Proved here: contracts of functions and plain laws, part 40 of one proof. Conditions: each theorem names its own. -/
import Derived.Test.YteinoiicnmemhaaGreatDoorZ8
import Derived.Test.YteinoiicnmemhaaGreatDoorZ24
import Derived.Test.YteinoiicnmemhaaGreatDoorZ26
import Derived.Test.YteinoiicnmemhaaGreatDoorZ39
import Derived.Laws.IdiomStrings
import Derived.Lib.QuietBelow
set_option linter.unusedSimpArgs false
set_option linter.unusedVariables false
namespace Go.Proofs.YteinoiicnmemhaaGreatDoor
section
open Go.RowKit Go Go.Sort
structure Like (s : MS) (r : RS) (N : Nat) : Prop where
  alike : Alike s r
  inv2 : s.Inv2
  few : s.Few N
  slen : r.s.length ≤ 3 * N
theorem Like.did {s : MS} {r : RS} {N : Nat} (h : Like s r N) (hi : s.Inv) (ho : s.Ok N) (c : Cmd) : Like (s.do c).2 (r.do c).2 (N + 1) :=
  ⟨(alike_do h.alike hi h.inv2 ho c).2, inv2_do hi h.inv2 c, few_do h.few c, by have := do_slen r c; have := h.slen; omega⟩
section
variable {a w w' w0 w1 w2 w3 w4 : World} {X X' H Hk E E' : List Nat} {sb mb sc mc rb kb N N' : Nat} {s s' : MS} {r r' : RS}
end
end
end Go.Proofs.YteinoiicnmemhaaGreatDoor

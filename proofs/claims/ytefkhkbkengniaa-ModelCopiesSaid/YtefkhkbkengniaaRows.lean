/-
  No cell of these rows narrows 'for every input' (looked for: loops, veiled, ifaces, maps, wideKeys, modest, calm, conditions, laid).
  DERIVED. THE GIVEN ROWS OF THIS SEAT. 7 by the template 'for every input the law returns true; each argument reads behind the call as it read before'; 0 by the template 'total and deterministic' (their statements: YtefkhkbkengniaaTotals.lean).
  GIVEN WITH THE SEED: the statements are not yours to turn. If you find one false, say at which input.
  Laid BY PROGRAM, IN A SANDBOX (cutbox-rows.mjs): the forced cells as the released guide's own fill.sh prints them over the translation 8cd5c7cf15d3b584… (all of the seat's roots in one cut). By AI agents, Wed Nov 11 2026. No macro, syntax, notation, axiom, sorry.
-/
import Derived.Test.YtefkhkbkengniaaChecked
import GoSem.Claim
import GoSem.ClaimJoined
import GoSem.ClaimMapViews
import Derived.JoinedTies
import Derived.KernelRfl
namespace Go.Proofs.Ytefkhkbkengniaa
/- THE CELL 'sum', in the pinned program and in every row, IS THE sha256 OF THE DUMP (.gsa) THAT YtefkhkbkengniaaProg.lean LOADS. Nothing in Lean hashes anything: it is a label: what it is worth is what the hold of that sum in a sandbox is worth. -/
noncomputable def Try.pinned : Pinned := { name := "ytefkhkbkengniaa", sum := "8cd5c7cf15d3b584c52b89edc03bb4449bd831cc4f6f43064c761f030b7a48b1", checked := Try.checked }
namespace Rows
def none {H : Type} : Left H := { results := [], args := [] }

/-- 'chroniclelaw17.ModelAgain': WHATEVER THE INPUT: true; the input reads as it did. -/
def modelAgainSpec : ChangeSpec := { name := "modelAgain", fn := fun _ => fun
  | [d1, d2, d3] => { results := [.lit (.bool true)], args := [d1, d2, d3] }
  | _ => none }
def modelAgainRow : OpenClaim := { program := "ytefkhkbkengniaa", sum := "8cd5c7cf15d3b584c52b89edc03bb4449bd831cc4f6f43064c761f030b7a48b1", func := "chronicle/chroniclelaw17.ModelAgain", spec := "modelAgain", inPlace := ["math.Float64frombits"], unfollowed := true, recurses := true, apart := false }
def ModelAgainSaid : Prop := modelAgainRow.holds Try.pinned (OpenSpec.ofChange modelAgainSpec)

/-- ITS FALSE NEIGHBOUR: 'it returns false'. Refute it at one input. -/
def modelAgainWrong : ChangeSpec := { name := "modelAgain", fn := fun _ => fun
  | [d1, d2, d3] => { results := [.lit (.bool false)], args := [d1, d2, d3] }
  | _ => none }
def ModelAgainWrongFalsely : Prop := modelAgainRow.holds Try.pinned (OpenSpec.ofChange modelAgainWrong)

/-- 'chroniclelaw17.ModelExpects': WHATEVER THE INPUT: true; the input reads as it did. -/
def modelExpectsSpec : ChangeSpec := { name := "modelExpects", fn := fun _ => fun
  | [d1, d2, d3, d4] => { results := [.lit (.bool true)], args := [d1, d2, d3, d4] }
  | _ => none }
def modelExpectsRow : OpenClaim := { program := "ytefkhkbkengniaa", sum := "8cd5c7cf15d3b584c52b89edc03bb4449bd831cc4f6f43064c761f030b7a48b1", func := "chronicle/chroniclelaw17.ModelExpects", spec := "modelExpects", inPlace := ["math.Float64frombits"], unfollowed := true, recurses := true, apart := false }
def ModelExpectsSaid : Prop := modelExpectsRow.holds Try.pinned (OpenSpec.ofChange modelExpectsSpec)

/-- ITS FALSE NEIGHBOUR: 'it returns false'. Refute it at one input. -/
def modelExpectsWrong : ChangeSpec := { name := "modelExpects", fn := fun _ => fun
  | [d1, d2, d3, d4] => { results := [.lit (.bool false)], args := [d1, d2, d3, d4] }
  | _ => none }
def ModelExpectsWrongFalsely : Prop := modelExpectsRow.holds Try.pinned (OpenSpec.ofChange modelExpectsWrong)

/-- 'chroniclelaw17.ModelMarks': WHATEVER THE INPUT: true; the input reads as it did. -/
def modelMarksSpec : ChangeSpec := { name := "modelMarks", fn := fun _ => fun
  | [d1, d2] => { results := [.lit (.bool true)], args := [d1, d2] }
  | _ => none }
def modelMarksRow : OpenClaim := { program := "ytefkhkbkengniaa", sum := "8cd5c7cf15d3b584c52b89edc03bb4449bd831cc4f6f43064c761f030b7a48b1", func := "chronicle/chroniclelaw17.ModelMarks", spec := "modelMarks", inPlace := ["math.Float64frombits", "math.Float64bits"], unfollowed := true, recurses := true, apart := false }
def ModelMarksSaid : Prop := modelMarksRow.holds Try.pinned (OpenSpec.ofChange modelMarksSpec)

/-- ITS FALSE NEIGHBOUR: 'it returns false'. Refute it at one input. -/
def modelMarksWrong : ChangeSpec := { name := "modelMarks", fn := fun _ => fun
  | [d1, d2] => { results := [.lit (.bool false)], args := [d1, d2] }
  | _ => none }
def ModelMarksWrongFalsely : Prop := modelMarksRow.holds Try.pinned (OpenSpec.ofChange modelMarksWrong)

/-- 'chroniclelaw17.ModelHides': WHATEVER THE INPUT: true; the input reads as it did. -/
def modelHidesSpec : ChangeSpec := { name := "modelHides", fn := fun _ => fun
  | [d] => { results := [.lit (.bool true)], args := [d] }
  | _ => none }
def modelHidesRow : OpenClaim := { program := "ytefkhkbkengniaa", sum := "8cd5c7cf15d3b584c52b89edc03bb4449bd831cc4f6f43064c761f030b7a48b1", func := "chronicle/chroniclelaw17.ModelHides", spec := "modelHides", inPlace := ["math.Float64frombits", "math.Float64bits"], unfollowed := true, recurses := true, apart := false }
def ModelHidesSaid : Prop := modelHidesRow.holds Try.pinned (OpenSpec.ofChange modelHidesSpec)

/-- ITS FALSE NEIGHBOUR: 'it returns false'. Refute it at one input. -/
def modelHidesWrong : ChangeSpec := { name := "modelHides", fn := fun _ => fun
  | [d] => { results := [.lit (.bool false)], args := [d] }
  | _ => none }
def ModelHidesWrongFalsely : Prop := modelHidesRow.holds Try.pinned (OpenSpec.ofChange modelHidesWrong)

/-- 'chroniclelaw17.ModelPages': WHATEVER THE INPUT: true; the input reads as it did. -/
def modelPagesSpec : ChangeSpec := { name := "modelPages", fn := fun _ => fun
  | [d1, d2, d3] => { results := [.lit (.bool true)], args := [d1, d2, d3] }
  | _ => none }
def modelPagesRow : OpenClaim := { program := "ytefkhkbkengniaa", sum := "8cd5c7cf15d3b584c52b89edc03bb4449bd831cc4f6f43064c761f030b7a48b1", func := "chronicle/chroniclelaw17.ModelPages", spec := "modelPages", inPlace := ["math.Float64frombits", "math.Float64bits"], unfollowed := true, recurses := true, apart := false }
def ModelPagesSaid : Prop := modelPagesRow.holds Try.pinned (OpenSpec.ofChange modelPagesSpec)

/-- ITS FALSE NEIGHBOUR: 'it returns false'. Refute it at one input. -/
def modelPagesWrong : ChangeSpec := { name := "modelPages", fn := fun _ => fun
  | [d1, d2, d3] => { results := [.lit (.bool false)], args := [d1, d2, d3] }
  | _ => none }
def ModelPagesWrongFalsely : Prop := modelPagesRow.holds Try.pinned (OpenSpec.ofChange modelPagesWrong)

/-- 'chroniclelaw17.ModelCopies': WHATEVER THE INPUT: true; the input reads as it did. -/
def modelCopiesSpec : ChangeSpec := { name := "modelCopies", fn := fun _ => fun
  | [d1, d2] => { results := [.lit (.bool true)], args := [d1, d2] }
  | _ => none }
def modelCopiesRow : OpenClaim := { program := "ytefkhkbkengniaa", sum := "8cd5c7cf15d3b584c52b89edc03bb4449bd831cc4f6f43064c761f030b7a48b1", func := "chronicle/chroniclelaw17.ModelCopies", spec := "modelCopies", inPlace := ["math.Float64frombits", "maps.clone", "math.Float64bits"], unfollowed := true, recurses := true, apart := false }
def ModelCopiesSaid : Prop := modelCopiesRow.holds Try.pinned (OpenSpec.ofChange modelCopiesSpec)

/-- ITS FALSE NEIGHBOUR: 'it returns false'. Refute it at one input. -/
def modelCopiesWrong : ChangeSpec := { name := "modelCopies", fn := fun _ => fun
  | [d1, d2] => { results := [.lit (.bool false)], args := [d1, d2] }
  | _ => none }
def ModelCopiesWrongFalsely : Prop := modelCopiesRow.holds Try.pinned (OpenSpec.ofChange modelCopiesWrong)

/-- 'chroniclelaw17.ModelNone': WHATEVER THE INPUT: true; the input reads as it did. -/
def modelNoneSpec : ChangeSpec := { name := "modelNone", fn := fun _ => fun
  | [d1, d2] => { results := [.lit (.bool true)], args := [d1, d2] }
  | _ => none }
def modelNoneRow : OpenClaim := { program := "ytefkhkbkengniaa", sum := "8cd5c7cf15d3b584c52b89edc03bb4449bd831cc4f6f43064c761f030b7a48b1", func := "chronicle/chroniclelaw17.ModelNone", spec := "modelNone", inPlace := ["math.Float64frombits", "maps.clone"], unfollowed := true, recurses := true, apart := false }
def ModelNoneSaid : Prop := modelNoneRow.holds Try.pinned (OpenSpec.ofChange modelNoneSpec)

/-- ITS FALSE NEIGHBOUR: 'it returns false'. Refute it at one input. -/
def modelNoneWrong : ChangeSpec := { name := "modelNone", fn := fun _ => fun
  | [d1, d2] => { results := [.lit (.bool false)], args := [d1, d2] }
  | _ => none }
def ModelNoneWrongFalsely : Prop := modelNoneRow.holds Try.pinned (OpenSpec.ofChange modelNoneWrong)

/- THE SECOND FORM. 'bulk': how many values and letters a reading holds, each counted each time it is reached (what is shared counts as often as it is met; a slice's spare places count too). A statement '..UptoSaid' is the law's where the arguments, and the package variables that the reading takes, are together of bulk at most 1048576: NARROWER than '..Said'. Prove '..Said' where nothing that the law and all that it calls make is longer than what came in: it says more and counts as full. Else prove '..UptoSaid'. A law counts once. -/
mutual
def uptoBulk {H : Type} : DataW H → Nat
  | .lit (.string bytes) => bytes.length + 1
  | .lit _ => 1
  | .nil => 1
  | .ptr d => uptoBulk d + 1
  | .slice elems spare => uptoBulkAll elems + uptoBulkAll spare + 1
  | .agg parts => uptoBulkAll parts + 1
  | .iface _ d => uptoBulk d + 1
  | .map entries => uptoBulkEntries entries + 1
  | .held _ => 1
def uptoBulkAll {H : Type} : List (DataW H) → Nat
  | [] => 0
  | d :: r => uptoBulk d + uptoBulkAll r
def uptoBulkEntries {H : Type} : List (Lit × DataW H) → Nat
  | [] => 0
  | x :: r => uptoBulkEntry x + uptoBulkEntries r
def uptoBulkEntry {H : Type} : Lit × DataW H → Nat
  | (.string bytes, d) => bytes.length + uptoBulk d + 1
  | (_, d) => uptoBulk d + 1
 end
def uptoSmall : (H : Type) → List (DataW H) → Bool := fun _ ds => decide (uptoBulkAll ds ≤ 1048576)
def OpenSpec.upto (s : _root_.Go.ChangeSpec) : _root_.Go.OpenSpec := { _root_.Go.OpenSpec.ofChange s with cond := some uptoSmall }

/-- 'chroniclelaw17.ModelAgain', WHERE WHAT IT READS IS OF BULK AT MOST 1048576: true; the input reads as it did. -/
def modelAgainUptoRow : OpenClaim := { program := "ytefkhkbkengniaa", sum := "8cd5c7cf15d3b584c52b89edc03bb4449bd831cc4f6f43064c761f030b7a48b1", func := "chronicle/chroniclelaw17.ModelAgain", spec := "modelAgain", inPlace := ["math.Float64frombits"], unfollowed := true, recurses := true, apart := false, narrowed := true }
def ModelAgainUptoSaid : Prop := modelAgainUptoRow.holds Try.pinned (OpenSpec.upto modelAgainSpec)

/-- 'chroniclelaw17.ModelExpects', WHERE WHAT IT READS IS OF BULK AT MOST 1048576: true; the input reads as it did. -/
def modelExpectsUptoRow : OpenClaim := { program := "ytefkhkbkengniaa", sum := "8cd5c7cf15d3b584c52b89edc03bb4449bd831cc4f6f43064c761f030b7a48b1", func := "chronicle/chroniclelaw17.ModelExpects", spec := "modelExpects", inPlace := ["math.Float64frombits"], unfollowed := true, recurses := true, apart := false, narrowed := true }
def ModelExpectsUptoSaid : Prop := modelExpectsUptoRow.holds Try.pinned (OpenSpec.upto modelExpectsSpec)

/-- 'chroniclelaw17.ModelMarks', WHERE WHAT IT READS IS OF BULK AT MOST 1048576: true; the input reads as it did. -/
def modelMarksUptoRow : OpenClaim := { program := "ytefkhkbkengniaa", sum := "8cd5c7cf15d3b584c52b89edc03bb4449bd831cc4f6f43064c761f030b7a48b1", func := "chronicle/chroniclelaw17.ModelMarks", spec := "modelMarks", inPlace := ["math.Float64frombits", "math.Float64bits"], unfollowed := true, recurses := true, apart := false, narrowed := true }
def ModelMarksUptoSaid : Prop := modelMarksUptoRow.holds Try.pinned (OpenSpec.upto modelMarksSpec)

/-- 'chroniclelaw17.ModelHides', WHERE WHAT IT READS IS OF BULK AT MOST 1048576: true; the input reads as it did. -/
def modelHidesUptoRow : OpenClaim := { program := "ytefkhkbkengniaa", sum := "8cd5c7cf15d3b584c52b89edc03bb4449bd831cc4f6f43064c761f030b7a48b1", func := "chronicle/chroniclelaw17.ModelHides", spec := "modelHides", inPlace := ["math.Float64frombits", "math.Float64bits"], unfollowed := true, recurses := true, apart := false, narrowed := true }
def ModelHidesUptoSaid : Prop := modelHidesUptoRow.holds Try.pinned (OpenSpec.upto modelHidesSpec)

/-- 'chroniclelaw17.ModelPages', WHERE WHAT IT READS IS OF BULK AT MOST 1048576: true; the input reads as it did. -/
def modelPagesUptoRow : OpenClaim := { program := "ytefkhkbkengniaa", sum := "8cd5c7cf15d3b584c52b89edc03bb4449bd831cc4f6f43064c761f030b7a48b1", func := "chronicle/chroniclelaw17.ModelPages", spec := "modelPages", inPlace := ["math.Float64frombits", "math.Float64bits"], unfollowed := true, recurses := true, apart := false, narrowed := true }
def ModelPagesUptoSaid : Prop := modelPagesUptoRow.holds Try.pinned (OpenSpec.upto modelPagesSpec)

/-- 'chroniclelaw17.ModelCopies', WHERE WHAT IT READS IS OF BULK AT MOST 1048576: true; the input reads as it did. -/
def modelCopiesUptoRow : OpenClaim := { program := "ytefkhkbkengniaa", sum := "8cd5c7cf15d3b584c52b89edc03bb4449bd831cc4f6f43064c761f030b7a48b1", func := "chronicle/chroniclelaw17.ModelCopies", spec := "modelCopies", inPlace := ["math.Float64frombits", "maps.clone", "math.Float64bits"], unfollowed := true, recurses := true, apart := false, narrowed := true }
def ModelCopiesUptoSaid : Prop := modelCopiesUptoRow.holds Try.pinned (OpenSpec.upto modelCopiesSpec)

/-- 'chroniclelaw17.ModelNone', WHERE WHAT IT READS IS OF BULK AT MOST 1048576: true; the input reads as it did. -/
def modelNoneUptoRow : OpenClaim := { program := "ytefkhkbkengniaa", sum := "8cd5c7cf15d3b584c52b89edc03bb4449bd831cc4f6f43064c761f030b7a48b1", func := "chronicle/chroniclelaw17.ModelNone", spec := "modelNone", inPlace := ["math.Float64frombits", "maps.clone"], unfollowed := true, recurses := true, apart := false, narrowed := true }
def ModelNoneUptoSaid : Prop := modelNoneUptoRow.holds Try.pinned (OpenSpec.upto modelNoneSpec)

end Rows
end Go.Proofs.Ytefkhkbkengniaa

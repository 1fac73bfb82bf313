/-
  No cell of these rows narrows 'for every input' (looked for: loops, veiled, ifaces, maps, wideKeys, modest, calm, conditions, laid).
  DERIVED. THE GIVEN ROWS OF THIS SEAT. 4 by the template 'for every input the law returns true; each argument reads behind the call as it read before'; 0 by the template 'total and deterministic' (their statements: YthjgplgfcbhihaaTotals.lean).
  GIVEN WITH THE SEED: the statements are not yours to turn. If you find one false, say at which input.
  Laid BY PROGRAM, IN A SANDBOX (cutbox-rows.mjs): the forced cells as the released guide's own fill.sh prints them over the translation d85c70632f5acd83… (all of the seat's roots in one cut). By AI agents, Wed Nov 11 2026. No macro, syntax, notation, axiom, sorry.
-/
import Derived.Test.YthjgplgfcbhihaaChecked
import GoSem.Claim
import GoSem.ClaimJoined
import GoSem.ClaimMapViews
import Derived.JoinedTies
import Derived.KernelRfl
namespace Go.Proofs.Ythjgplgfcbhihaa
/- THE CELL 'sum', in the pinned program and in every row, IS THE sha256 OF THE DUMP (.gsa) THAT YthjgplgfcbhihaaProg.lean LOADS. Nothing in Lean hashes anything: it is a label: what it is worth is what the hold of that sum in a sandbox is worth. -/
noncomputable def Try.pinned : Pinned := { name := "ythjgplgfcbhihaa", sum := "d85c70632f5acd83ffb79eb51b55b07b068afd99f650ab7f6debbbc99b256d2e", checked := Try.checked }
namespace Rows
def none {H : Type} : Left H := { results := [], args := [] }

/-- 'chroniclelaw26.GroupDrains': WHATEVER THE INPUT: true; the input reads as it did. -/
def groupDrainsSpec : ChangeSpec := { name := "groupDrains", fn := fun _ => fun
  | [d1, d2, d3, d4] => { results := [.lit (.bool true)], args := [d1, d2, d3, d4] }
  | _ => none }
def groupDrainsRow : OpenClaim := { program := "ythjgplgfcbhihaa", sum := "d85c70632f5acd83ffb79eb51b55b07b068afd99f650ab7f6debbbc99b256d2e", func := "chronicle/chroniclelaw26.GroupDrains", spec := "groupDrains", inPlace := ["slices.overlaps[int]"], unfollowed := true, recurses := true, apart := false }
def GroupDrainsSaid : Prop := groupDrainsRow.holds Try.pinned (OpenSpec.ofChange groupDrainsSpec)

/-- ITS FALSE NEIGHBOUR: 'it returns false'. Refute it at one input. -/
def groupDrainsWrong : ChangeSpec := { name := "groupDrains", fn := fun _ => fun
  | [d1, d2, d3, d4] => { results := [.lit (.bool false)], args := [d1, d2, d3, d4] }
  | _ => none }
def GroupDrainsWrongFalsely : Prop := groupDrainsRow.holds Try.pinned (OpenSpec.ofChange groupDrainsWrong)

/-- 'chroniclelaw26.GroupRetries': WHATEVER THE INPUT: true; the input reads as it did. -/
def groupRetriesSpec : ChangeSpec := { name := "groupRetries", fn := fun _ => fun
  | [d1, d2, d3] => { results := [.lit (.bool true)], args := [d1, d2, d3] }
  | _ => none }
def groupRetriesRow : OpenClaim := { program := "ythjgplgfcbhihaa", sum := "d85c70632f5acd83ffb79eb51b55b07b068afd99f650ab7f6debbbc99b256d2e", func := "chronicle/chroniclelaw26.GroupRetries", spec := "groupRetries", inPlace := ["slices.overlaps[int]"], unfollowed := true, recurses := true, apart := false }
def GroupRetriesSaid : Prop := groupRetriesRow.holds Try.pinned (OpenSpec.ofChange groupRetriesSpec)

/-- ITS FALSE NEIGHBOUR: 'it returns false'. Refute it at one input. -/
def groupRetriesWrong : ChangeSpec := { name := "groupRetries", fn := fun _ => fun
  | [d1, d2, d3] => { results := [.lit (.bool false)], args := [d1, d2, d3] }
  | _ => none }
def GroupRetriesWrongFalsely : Prop := groupRetriesRow.holds Try.pinned (OpenSpec.ofChange groupRetriesWrong)

/-- 'chroniclelaw26.GroupCopies': WHATEVER THE INPUT: true; the input reads as it did. -/
def groupCopiesSpec : ChangeSpec := { name := "groupCopies", fn := fun _ => fun
  | [d1, d2] => { results := [.lit (.bool true)], args := [d1, d2] }
  | _ => none }
def groupCopiesRow : OpenClaim := { program := "ythjgplgfcbhihaa", sum := "d85c70632f5acd83ffb79eb51b55b07b068afd99f650ab7f6debbbc99b256d2e", func := "chronicle/chroniclelaw26.GroupCopies", spec := "groupCopies", inPlace := ["slices.overlaps[int]", "maps.clone"], unfollowed := true, recurses := true, apart := false }
def GroupCopiesSaid : Prop := groupCopiesRow.holds Try.pinned (OpenSpec.ofChange groupCopiesSpec)

/-- ITS FALSE NEIGHBOUR: 'it returns false'. Refute it at one input. -/
def groupCopiesWrong : ChangeSpec := { name := "groupCopies", fn := fun _ => fun
  | [d1, d2] => { results := [.lit (.bool false)], args := [d1, d2] }
  | _ => none }
def GroupCopiesWrongFalsely : Prop := groupCopiesRow.holds Try.pinned (OpenSpec.ofChange groupCopiesWrong)

/-- 'chroniclelaw26.GroupNone': WHATEVER THE INPUT: true; the input reads as it did. -/
def groupNoneSpec : ChangeSpec := { name := "groupNone", fn := fun _ => fun
  | [d1, d2] => { results := [.lit (.bool true)], args := [d1, d2] }
  | _ => none }
def groupNoneRow : OpenClaim := { program := "ythjgplgfcbhihaa", sum := "d85c70632f5acd83ffb79eb51b55b07b068afd99f650ab7f6debbbc99b256d2e", func := "chronicle/chroniclelaw26.GroupNone", spec := "groupNone", inPlace := ["slices.overlaps[int]", "maps.clone"], unfollowed := true, recurses := true, apart := false }
def GroupNoneSaid : Prop := groupNoneRow.holds Try.pinned (OpenSpec.ofChange groupNoneSpec)

/-- ITS FALSE NEIGHBOUR: 'it returns false'. Refute it at one input. -/
def groupNoneWrong : ChangeSpec := { name := "groupNone", fn := fun _ => fun
  | [d1, d2] => { results := [.lit (.bool false)], args := [d1, d2] }
  | _ => none }
def GroupNoneWrongFalsely : Prop := groupNoneRow.holds Try.pinned (OpenSpec.ofChange groupNoneWrong)

/- THE SECOND FORM. 'bulk': how many values and letters a reading holds, each counted each time it is reached (what is shared counts as often as it is met; a slice's spare places count too). A statement '..UptoSaid' is the law's where the arguments, and the package variables that the reading takes, are together of bulk at most 1048576: NARROWER than '..Said'. Prove '..Said' where nothing that the law and all that it calls make is longer than what came in: it says more and counts as full. Else prove '..UptoSaid'. A law counts once. -/
mutual
def uptoBulk {H : Type} : DataW H → Nat
  | .lit (.string bytes) => bytes.length + 1
  | .lit _ => 1
  | .nil => 1
  | .ptr d => uptoBulk d + 1
  | .slice elems spare => uptoBulkAll elems + uptoBulkAll spare + 1
  | .agg parts => uptoBulkAll parts + 1
  | .iface _ d => uptoBulk d + 1
  | .map entries => uptoBulkEntries entries + 1
  | .held _ => 1
def uptoBulkAll {H : Type} : List (DataW H) → Nat
  | [] => 0
  | d :: r => uptoBulk d + uptoBulkAll r
def uptoBulkEntries {H : Type} : List (Lit × DataW H) → Nat
  | [] => 0
  | x :: r => uptoBulkEntry x + uptoBulkEntries r
def uptoBulkEntry {H : Type} : Lit × DataW H → Nat
  | (.string bytes, d) => bytes.length + uptoBulk d + 1
  | (_, d) => uptoBulk d + 1
 end
def uptoSmall : (H : Type) → List (DataW H) → Bool := fun _ ds => decide (uptoBulkAll ds ≤ 1048576)
def OpenSpec.upto (s : _root_.Go.ChangeSpec) : _root_.Go.OpenSpec := { _root_.Go.OpenSpec.ofChange s with cond := some uptoSmall }

/-- 'chroniclelaw26.GroupDrains', WHERE WHAT IT READS IS OF BULK AT MOST 1048576: true; the input reads as it did. -/
def groupDrainsUptoRow : OpenClaim := { program := "ythjgplgfcbhihaa", sum := "d85c70632f5acd83ffb79eb51b55b07b068afd99f650ab7f6debbbc99b256d2e", func := "chronicle/chroniclelaw26.GroupDrains", spec := "groupDrains", inPlace := ["slices.overlaps[int]"], unfollowed := true, recurses := true, apart := false, narrowed := true }
def GroupDrainsUptoSaid : Prop := groupDrainsUptoRow.holds Try.pinned (OpenSpec.upto groupDrainsSpec)

/-- 'chroniclelaw26.GroupRetries', WHERE WHAT IT READS IS OF BULK AT MOST 1048576: true; the input reads as it did. -/
def groupRetriesUptoRow : OpenClaim := { program := "ythjgplgfcbhihaa", sum := "d85c70632f5acd83ffb79eb51b55b07b068afd99f650ab7f6debbbc99b256d2e", func := "chronicle/chroniclelaw26.GroupRetries", spec := "groupRetries", inPlace := ["slices.overlaps[int]"], unfollowed := true, recurses := true, apart := false, narrowed := true }
def GroupRetriesUptoSaid : Prop := groupRetriesUptoRow.holds Try.pinned (OpenSpec.upto groupRetriesSpec)

/-- 'chroniclelaw26.GroupCopies', WHERE WHAT IT READS IS OF BULK AT MOST 1048576: true; the input reads as it did. -/
def groupCopiesUptoRow : OpenClaim := { program := "ythjgplgfcbhihaa", sum := "d85c70632f5acd83ffb79eb51b55b07b068afd99f650ab7f6debbbc99b256d2e", func := "chronicle/chroniclelaw26.GroupCopies", spec := "groupCopies", inPlace := ["slices.overlaps[int]", "maps.clone"], unfollowed := true, recurses := true, apart := false, narrowed := true }
def GroupCopiesUptoSaid : Prop := groupCopiesUptoRow.holds Try.pinned (OpenSpec.upto groupCopiesSpec)

/-- 'chroniclelaw26.GroupNone', WHERE WHAT IT READS IS OF BULK AT MOST 1048576: true; the input reads as it did. -/
def groupNoneUptoRow : OpenClaim := { program := "ythjgplgfcbhihaa", sum := "d85c70632f5acd83ffb79eb51b55b07b068afd99f650ab7f6debbbc99b256d2e", func := "chronicle/chroniclelaw26.GroupNone", spec := "groupNone", inPlace := ["slices.overlaps[int]", "maps.clone"], unfollowed := true, recurses := true, apart := false, narrowed := true }
def GroupNoneUptoSaid : Prop := groupNoneUptoRow.holds Try.pinned (OpenSpec.upto groupNoneSpec)

end Rows
end Go.Proofs.Ythjgplgfcbhihaa

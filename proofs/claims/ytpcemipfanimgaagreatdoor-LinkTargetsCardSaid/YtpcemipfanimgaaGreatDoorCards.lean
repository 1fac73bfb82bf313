/-
  DERIVED. GIVEN WITH THE SEED: THE CARDS: each row of YtpcemipfanimgaaGreatDoorRows.lean that lists a variable, with what it lists TIED to the program's text (the seventh form; the later family's looks); each row that meets fmt, with fmt's text TOLD by the authors' own Lean function (tested against real Go, not proved from fmt's source: count such statements apart). THE CARD IS WHAT COUNTS. Prove the row's statement (the work); the ties are given (YtpcemipfanimgaaGreatDoorTie.lean); close each card by the builder's one call (the guide's Derived/Test/ToyasCard.lean, 'card_holds'). Laid BY PROGRAM, IN A SANDBOX (cutbox-door.mjs). By AI agents, Wed Nov 11 2026. No macro, syntax, notation, axiom, sorry.
-/
import Derived.Test.YtpcemipfanimgaaGreatDoorRows
import GoSem.ClaimSeven
namespace Go.Proofs.YtpcemipfanimgaaGreatDoor
namespace Rows

/-- THE TIED CARD OF 'chroniclelaw25.LinkWants'. -/
def linkWantsCard : Claim7 := { stood := { row := linkWantsRow, standIns := [], harness := (true, "b8ae21cf5bd178f8e0e5ed142e225bce6f24adb903a2a22c34fcc4cf88ae35b6"), looks := true }, kinds := [], alts := [], laidByText := true, laidKinds := [.data, .data, .data], laidTests := true, laidLooks := .later }
def LinkWantsCardSaid : Prop := Claim7.holds Tryz.pinned (.plain (OpenSpec.ofChange linkWantsSpec)) linkWantsCard

/-- THE TIED CARD OF 'chroniclelaw25.LinkRuns'. -/
def linkRunsCard : Claim7 := { stood := { row := linkRunsRow, standIns := [], harness := (true, "b8ae21cf5bd178f8e0e5ed142e225bce6f24adb903a2a22c34fcc4cf88ae35b6"), looks := true }, kinds := [], alts := [], laidByText := true, laidKinds := [.data, .data, .data], laidTests := true, laidLooks := .later }
def LinkRunsCardSaid : Prop := Claim7.holds Tryz.pinned (.plain (OpenSpec.ofChange linkRunsSpec)) linkRunsCard

/-- THE TIED CARD OF 'chroniclelaw25.LinkAlone'. -/
def linkAloneCard : Claim7 := { stood := { row := linkAloneRow, standIns := [], harness := (true, "b8ae21cf5bd178f8e0e5ed142e225bce6f24adb903a2a22c34fcc4cf88ae35b6"), looks := true }, kinds := [], alts := [], laidByText := true, laidKinds := [.data, .data, .data], laidTests := true, laidLooks := .later }
def LinkAloneCardSaid : Prop := Claim7.holds Tryz.pinned (.plain (OpenSpec.ofChange linkAloneSpec)) linkAloneCard

/-- THE TIED CARD OF 'chroniclelaw25.LinkOld'. -/
def linkOldCard : Claim7 := { stood := { row := linkOldRow, standIns := [], harness := (true, "b8ae21cf5bd178f8e0e5ed142e225bce6f24adb903a2a22c34fcc4cf88ae35b6"), looks := true }, kinds := [], alts := [], laidByText := true, laidKinds := [.data, .data, .data], laidTests := true, laidLooks := .later }
def LinkOldCardSaid : Prop := Claim7.holds Tryz.pinned (.plain (OpenSpec.ofChange linkOldSpec)) linkOldCard

/-- THE TIED CARD OF 'chroniclelaw25.LinkTargets'. -/
def linkTargetsCard : Claim7 := { stood := { row := linkTargetsRow, standIns := [], harness := (true, "b8ae21cf5bd178f8e0e5ed142e225bce6f24adb903a2a22c34fcc4cf88ae35b6"), looks := true }, kinds := [], alts := [], laidByText := true, laidKinds := [.data, .data, .data], laidTests := true, laidLooks := .later }
def LinkTargetsCardSaid : Prop := Claim7.holds Tryz.pinned (.plain (OpenSpec.ofChange linkTargetsSpec)) linkTargetsCard

/-- THE TIED CARD OF 'chroniclelaw25.LinkFolds'. -/
def linkFoldsCard : Claim7 := { stood := { row := linkFoldsRow, standIns := [], harness := (true, "b8ae21cf5bd178f8e0e5ed142e225bce6f24adb903a2a22c34fcc4cf88ae35b6"), looks := true }, kinds := [], alts := [], laidByText := true, laidKinds := [.data, .data, .data], laidTests := true, laidLooks := .later }
def LinkFoldsCardSaid : Prop := Claim7.holds Tryz.pinned (.plain (OpenSpec.ofChange linkFoldsSpec)) linkFoldsCard

/-- THE SECOND FORM's CARD OF 'chroniclelaw25.LinkWants'. -/
def linkWantsUptoCard : Claim7 := { stood := { row := linkWantsUptoRow, standIns := [], harness := (true, "b8ae21cf5bd178f8e0e5ed142e225bce6f24adb903a2a22c34fcc4cf88ae35b6"), looks := true }, kinds := [], alts := [], laidByText := true, laidKinds := [.data, .data, .data], laidTests := true, laidLooks := .later }
def LinkWantsUptoCardSaid : Prop := Claim7.holds Tryz.pinned (.plain (OpenSpec.upto linkWantsSpec)) linkWantsUptoCard

/-- THE SECOND FORM's CARD OF 'chroniclelaw25.LinkRuns'. -/
def linkRunsUptoCard : Claim7 := { stood := { row := linkRunsUptoRow, standIns := [], harness := (true, "b8ae21cf5bd178f8e0e5ed142e225bce6f24adb903a2a22c34fcc4cf88ae35b6"), looks := true }, kinds := [], alts := [], laidByText := true, laidKinds := [.data, .data, .data], laidTests := true, laidLooks := .later }
def LinkRunsUptoCardSaid : Prop := Claim7.holds Tryz.pinned (.plain (OpenSpec.upto linkRunsSpec)) linkRunsUptoCard

/-- THE SECOND FORM's CARD OF 'chroniclelaw25.LinkAlone'. -/
def linkAloneUptoCard : Claim7 := { stood := { row := linkAloneUptoRow, standIns := [], harness := (true, "b8ae21cf5bd178f8e0e5ed142e225bce6f24adb903a2a22c34fcc4cf88ae35b6"), looks := true }, kinds := [], alts := [], laidByText := true, laidKinds := [.data, .data, .data], laidTests := true, laidLooks := .later }
def LinkAloneUptoCardSaid : Prop := Claim7.holds Tryz.pinned (.plain (OpenSpec.upto linkAloneSpec)) linkAloneUptoCard

/-- THE SECOND FORM's CARD OF 'chroniclelaw25.LinkOld'. -/
def linkOldUptoCard : Claim7 := { stood := { row := linkOldUptoRow, standIns := [], harness := (true, "b8ae21cf5bd178f8e0e5ed142e225bce6f24adb903a2a22c34fcc4cf88ae35b6"), looks := true }, kinds := [], alts := [], laidByText := true, laidKinds := [.data, .data, .data], laidTests := true, laidLooks := .later }
def LinkOldUptoCardSaid : Prop := Claim7.holds Tryz.pinned (.plain (OpenSpec.upto linkOldSpec)) linkOldUptoCard

/-- THE SECOND FORM's CARD OF 'chroniclelaw25.LinkTargets'. -/
def linkTargetsUptoCard : Claim7 := { stood := { row := linkTargetsUptoRow, standIns := [], harness := (true, "b8ae21cf5bd178f8e0e5ed142e225bce6f24adb903a2a22c34fcc4cf88ae35b6"), looks := true }, kinds := [], alts := [], laidByText := true, laidKinds := [.data, .data, .data], laidTests := true, laidLooks := .later }
def LinkTargetsUptoCardSaid : Prop := Claim7.holds Tryz.pinned (.plain (OpenSpec.upto linkTargetsSpec)) linkTargetsUptoCard

/-- THE SECOND FORM's CARD OF 'chroniclelaw25.LinkFolds'. -/
def linkFoldsUptoCard : Claim7 := { stood := { row := linkFoldsUptoRow, standIns := [], harness := (true, "b8ae21cf5bd178f8e0e5ed142e225bce6f24adb903a2a22c34fcc4cf88ae35b6"), looks := true }, kinds := [], alts := [], laidByText := true, laidKinds := [.data, .data, .data], laidTests := true, laidLooks := .later }
def LinkFoldsUptoCardSaid : Prop := Claim7.holds Tryz.pinned (.plain (OpenSpec.upto linkFoldsSpec)) linkFoldsUptoCard
end Rows
end Go.Proofs.YtpcemipfanimgaaGreatDoor

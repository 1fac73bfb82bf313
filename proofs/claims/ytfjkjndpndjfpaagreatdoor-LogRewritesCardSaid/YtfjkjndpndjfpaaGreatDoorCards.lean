/-
  DERIVED. GIVEN WITH THE SEED: THE CARDS: each row of YtfjkjndpndjfpaaGreatDoorRows.lean that lists a variable, with what it lists TIED to the program's text (the seventh form; the later family's looks); each row that meets fmt, with fmt's text TOLD by the authors' own Lean function (tested against real Go, not proved from fmt's source: count such statements apart). THE CARD IS WHAT COUNTS. Prove the row's statement (the work); the ties are given (YtfjkjndpndjfpaaGreatDoorTie.lean); close each card by the builder's one call (the guide's Derived/Test/ToyasCard.lean, 'card_holds'). Laid BY PROGRAM, IN A SANDBOX (cutbox-door.mjs). By AI agents, Wed Nov 11 2026. No macro, syntax, notation, axiom, sorry.
-/
import Derived.Test.YtfjkjndpndjfpaaGreatDoorRows
import GoSem.ClaimSeven
namespace Go.Proofs.YtfjkjndpndjfpaaGreatDoor
namespace Rows

/-- THE TIED CARD OF 'chroniclelaw11.LogBacks'. -/
def logBacksCard : Claim7 := { stood := { row := logBacksRow, standIns := [], harness := (true, "16786bff00b003f9b5031c539e9fa6db3d2a6064db9bbea99ed5ff31b30097e7"), looks := false }, kinds := [], alts := [], laidByText := true, laidKinds := [.data, .data, .data], laidTests := true, laidLooks := .later }
def LogBacksCardSaid : Prop := Claim7.holds Tryz.pinned (.plain (OpenSpec.ofChange logBacksSpec)) logBacksCard

/-- THE TIED CARD OF 'chroniclelaw11.LogMarks'. -/
def logMarksCard : Claim7 := { stood := { row := logMarksRow, standIns := [], harness := (true, "16786bff00b003f9b5031c539e9fa6db3d2a6064db9bbea99ed5ff31b30097e7"), looks := false }, kinds := [], alts := [], laidByText := true, laidKinds := [.data, .data, .data], laidTests := true, laidLooks := .later }
def LogMarksCardSaid : Prop := Claim7.holds Tryz.pinned (.plain (OpenSpec.ofChange logMarksSpec)) logMarksCard

/-- THE TIED CARD OF 'chroniclelaw11.LogCuts'. -/
def logCutsCard : Claim7 := { stood := { row := logCutsRow, standIns := [], harness := (true, "16786bff00b003f9b5031c539e9fa6db3d2a6064db9bbea99ed5ff31b30097e7"), looks := false }, kinds := [], alts := [], laidByText := true, laidKinds := [.data, .data, .data], laidTests := true, laidLooks := .later }
def LogCutsCardSaid : Prop := Claim7.holds Tryz.pinned (.plain (OpenSpec.ofChange logCutsSpec)) logCutsCard

/-- THE TIED CARD OF 'chroniclelaw11.LogRewrites'. -/
def logRewritesCard : Claim7 := { stood := { row := logRewritesRow, standIns := [], harness := (true, "16786bff00b003f9b5031c539e9fa6db3d2a6064db9bbea99ed5ff31b30097e7"), looks := false }, kinds := [], alts := [], laidByText := true, laidKinds := [.data, .data, .data], laidTests := true, laidLooks := .later }
def LogRewritesCardSaid : Prop := Claim7.holds Tryz.pinned (.plain (OpenSpec.ofChange logRewritesSpec)) logRewritesCard

/-- THE TIED CARD OF 'chroniclelaw11.LogNone'. -/
def logNoneCard : Claim7 := { stood := { row := logNoneRow, standIns := [], harness := (true, "16786bff00b003f9b5031c539e9fa6db3d2a6064db9bbea99ed5ff31b30097e7"), looks := false }, kinds := [], alts := [], laidByText := true, laidKinds := [.data, .data, .data], laidTests := true, laidLooks := .later }
def LogNoneCardSaid : Prop := Claim7.holds Tryz.pinned (.plain (OpenSpec.ofChange logNoneSpec)) logNoneCard

/-- THE SECOND FORM's CARD OF 'chroniclelaw11.LogBacks'. -/
def logBacksUptoCard : Claim7 := { stood := { row := logBacksUptoRow, standIns := [], harness := (true, "16786bff00b003f9b5031c539e9fa6db3d2a6064db9bbea99ed5ff31b30097e7"), looks := false }, kinds := [], alts := [], laidByText := true, laidKinds := [.data, .data, .data], laidTests := true, laidLooks := .later }
def LogBacksUptoCardSaid : Prop := Claim7.holds Tryz.pinned (.plain (OpenSpec.upto logBacksSpec)) logBacksUptoCard

/-- THE SECOND FORM's CARD OF 'chroniclelaw11.LogMarks'. -/
def logMarksUptoCard : Claim7 := { stood := { row := logMarksUptoRow, standIns := [], harness := (true, "16786bff00b003f9b5031c539e9fa6db3d2a6064db9bbea99ed5ff31b30097e7"), looks := false }, kinds := [], alts := [], laidByText := true, laidKinds := [.data, .data, .data], laidTests := true, laidLooks := .later }
def LogMarksUptoCardSaid : Prop := Claim7.holds Tryz.pinned (.plain (OpenSpec.upto logMarksSpec)) logMarksUptoCard

/-- THE SECOND FORM's CARD OF 'chroniclelaw11.LogCuts'. -/
def logCutsUptoCard : Claim7 := { stood := { row := logCutsUptoRow, standIns := [], harness := (true, "16786bff00b003f9b5031c539e9fa6db3d2a6064db9bbea99ed5ff31b30097e7"), looks := false }, kinds := [], alts := [], laidByText := true, laidKinds := [.data, .data, .data], laidTests := true, laidLooks := .later }
def LogCutsUptoCardSaid : Prop := Claim7.holds Tryz.pinned (.plain (OpenSpec.upto logCutsSpec)) logCutsUptoCard

/-- THE SECOND FORM's CARD OF 'chroniclelaw11.LogRewrites'. -/
def logRewritesUptoCard : Claim7 := { stood := { row := logRewritesUptoRow, standIns := [], harness := (true, "16786bff00b003f9b5031c539e9fa6db3d2a6064db9bbea99ed5ff31b30097e7"), looks := false }, kinds := [], alts := [], laidByText := true, laidKinds := [.data, .data, .data], laidTests := true, laidLooks := .later }
def LogRewritesUptoCardSaid : Prop := Claim7.holds Tryz.pinned (.plain (OpenSpec.upto logRewritesSpec)) logRewritesUptoCard

/-- THE SECOND FORM's CARD OF 'chroniclelaw11.LogNone'. -/
def logNoneUptoCard : Claim7 := { stood := { row := logNoneUptoRow, standIns := [], harness := (true, "16786bff00b003f9b5031c539e9fa6db3d2a6064db9bbea99ed5ff31b30097e7"), looks := false }, kinds := [], alts := [], laidByText := true, laidKinds := [.data, .data, .data], laidTests := true, laidLooks := .later }
def LogNoneUptoCardSaid : Prop := Claim7.holds Tryz.pinned (.plain (OpenSpec.upto logNoneSpec)) logNoneUptoCard
end Rows
end Go.Proofs.YtfjkjndpndjfpaaGreatDoor

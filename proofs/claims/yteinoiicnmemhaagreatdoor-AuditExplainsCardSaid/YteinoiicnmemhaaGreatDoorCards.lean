/-
  DERIVED. GIVEN WITH THE SEED: THE CARDS: each row of YteinoiicnmemhaaGreatDoorRows.lean that lists a variable, with what it lists TIED to the program's text (the seventh form; the later family's looks); each row that meets fmt, with fmt's text TOLD by the authors' own Lean function (tested against real Go, not proved from fmt's source: count such statements apart). THE CARD IS WHAT COUNTS. Prove the row's statement (the work); the ties are given (YteinoiicnmemhaaGreatDoorTie.lean); close each card by the builder's one call (the guide's Derived/Test/ToyasCard.lean, 'card_holds'). Laid BY PROGRAM, IN A SANDBOX (cutbox-door.mjs). By AI agents, Wed Nov 11 2026. No macro, syntax, notation, axiom, sorry.
-/
import Derived.Test.YteinoiicnmemhaaGreatDoorRows
import GoSem.ClaimSeven
namespace Go.Proofs.YteinoiicnmemhaaGreatDoor
namespace Rows

/-- THE TIED CARD OF 'chroniclelaw27.AuditJudges'. -/
def auditJudgesCard : Claim7 := { stood := { row := auditJudgesRow, standIns := [], harness := (true, "20282bafe8374816167778c63876cfbf535a17c3950d261a93e6c96a45e931aa"), looks := true }, kinds := [], alts := [], laidByText := true, laidKinds := [.data, .data, .data], laidTests := true, laidLooks := .later }
def AuditJudgesCardSaid : Prop := Claim7.holds Tryz.pinned (.plain (OpenSpec.ofChange auditJudgesSpec)) auditJudgesCard

/-- THE TIED CARD OF 'chroniclelaw27.AuditExplains'. -/
def auditExplainsCard : Claim7 := { stood := { row := auditExplainsRow, standIns := [], harness := (true, "20282bafe8374816167778c63876cfbf535a17c3950d261a93e6c96a45e931aa"), looks := true }, kinds := [], alts := [], laidByText := true, laidKinds := [.data, .data, .data], laidTests := true, laidLooks := .later }
def AuditExplainsCardSaid : Prop := Claim7.holds Tryz.pinned (.plain (OpenSpec.ofChange auditExplainsSpec)) auditExplainsCard

/-- THE TIED CARD OF 'chroniclelaw27.AuditNone'. -/
def auditNoneCard : Claim7 := { stood := { row := auditNoneRow, standIns := [], harness := (true, "20282bafe8374816167778c63876cfbf535a17c3950d261a93e6c96a45e931aa"), looks := true }, kinds := [], alts := [], laidByText := true, laidKinds := [.data, .data, .data], laidTests := true, laidLooks := .later }
def AuditNoneCardSaid : Prop := Claim7.holds Tryz.pinned (.plain (OpenSpec.ofChange auditNoneSpec)) auditNoneCard

/-- THE SECOND FORM's CARD OF 'chroniclelaw27.AuditJudges'. -/
def auditJudgesUptoCard : Claim7 := { stood := { row := auditJudgesUptoRow, standIns := [], harness := (true, "20282bafe8374816167778c63876cfbf535a17c3950d261a93e6c96a45e931aa"), looks := true }, kinds := [], alts := [], laidByText := true, laidKinds := [.data, .data, .data], laidTests := true, laidLooks := .later }
def AuditJudgesUptoCardSaid : Prop := Claim7.holds Tryz.pinned (.plain (OpenSpec.upto auditJudgesSpec)) auditJudgesUptoCard

/-- THE SECOND FORM's CARD OF 'chroniclelaw27.AuditExplains'. -/
def auditExplainsUptoCard : Claim7 := { stood := { row := auditExplainsUptoRow, standIns := [], harness := (true, "20282bafe8374816167778c63876cfbf535a17c3950d261a93e6c96a45e931aa"), looks := true }, kinds := [], alts := [], laidByText := true, laidKinds := [.data, .data, .data], laidTests := true, laidLooks := .later }
def AuditExplainsUptoCardSaid : Prop := Claim7.holds Tryz.pinned (.plain (OpenSpec.upto auditExplainsSpec)) auditExplainsUptoCard

/-- THE SECOND FORM's CARD OF 'chroniclelaw27.AuditNone'. -/
def auditNoneUptoCard : Claim7 := { stood := { row := auditNoneUptoRow, standIns := [], harness := (true, "20282bafe8374816167778c63876cfbf535a17c3950d261a93e6c96a45e931aa"), looks := true }, kinds := [], alts := [], laidByText := true, laidKinds := [.data, .data, .data], laidTests := true, laidLooks := .later }
def AuditNoneUptoCardSaid : Prop := Claim7.holds Tryz.pinned (.plain (OpenSpec.upto auditNoneSpec)) auditNoneUptoCard
end Rows
end Go.Proofs.YteinoiicnmemhaaGreatDoor

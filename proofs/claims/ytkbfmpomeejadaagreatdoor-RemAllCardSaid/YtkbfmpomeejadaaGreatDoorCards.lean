/-
  DERIVED. GIVEN WITH THE SEED: THE CARDS: each row of YtkbfmpomeejadaaGreatDoorRows.lean that lists a variable, with what it lists TIED to the program's text (the seventh form; the later family's looks); each row that meets fmt, with fmt's text TOLD by the authors' own Lean function (tested against real Go, not proved from fmt's source: count such statements apart). THE CARD IS WHAT COUNTS. Prove the row's statement (the work); the ties are given (YtkbfmpomeejadaaGreatDoorTie.lean); close each card by the builder's one call (the guide's Derived/Test/ToyasCard.lean, 'card_holds'). Laid BY PROGRAM, IN A SANDBOX (cutbox-door.mjs). By AI agents, Wed Nov 11 2026. No macro, syntax, notation, axiom, sorry.
-/
import Derived.Test.YtkbfmpomeejadaaGreatDoorRows
import GoSem.ClaimSeven
namespace Go.Proofs.YtkbfmpomeejadaaGreatDoor
namespace Rows

/-- THE TIED CARD OF 'hairsbreadthlaw23.RemAll'. -/
def remAllCard : Claim7 := { stood := { row := remAllRow, standIns := [], harness := (true, "317376ba58287407792ab1557a4485bf55b7dd5ceea78ce4eb1059b454019e53"), looks := true }, kinds := [], alts := [], laidByText := true, laidKinds := [.data], laidTests := true, laidLooks := .later }
def RemAllCardSaid : Prop := Claim7.holds Tryz.pinned (.plain (OpenSpec.ofChange remAllSpec)) remAllCard

/-- THE TIED CARD OF 'hairsbreadthtop.TopCloser'. -/
def topCloserCard : Claim7 := { stood := { row := topCloserRow, standIns := [], harness := (true, "317376ba58287407792ab1557a4485bf55b7dd5ceea78ce4eb1059b454019e53"), looks := true }, kinds := [], alts := [], laidByText := true, laidKinds := [.data, .data, .data, .data, .data, .data, .data, .pinned], laidTests := true, laidLooks := .later }
def TopCloserCardSaid : Prop := Claim7.holds Tryz.pinned (.plain (OpenSpec.ofChange topCloserSpec)) topCloserCard

/-- THE TIED CARD OF 'hairsbreadthtop.TopModel'. -/
def topModelCard : Claim7 := { stood := { row := topModelRow, standIns := [], harness := (true, "317376ba58287407792ab1557a4485bf55b7dd5ceea78ce4eb1059b454019e53"), looks := true }, kinds := [], alts := [], laidByText := true, laidKinds := [.data, .data, .data, .data, .data, .data, .data, .pinned], laidTests := true, laidLooks := .later }
def TopModelCardSaid : Prop := Claim7.holds Tryz.pinned (.plain (OpenSpec.ofChange topModelSpec)) topModelCard

/-- THE TIED CARD OF 'hairsbreadthlaw29.TableKeeps'. -/
def tableKeepsCard : Claim7 := { stood := { row := tableKeepsRow, standIns := [], harness := (true, "317376ba58287407792ab1557a4485bf55b7dd5ceea78ce4eb1059b454019e53"), looks := true }, kinds := [], alts := [], laidByText := true, laidKinds := [.data, .data], laidTests := true, laidLooks := .later }
def TableKeepsCardSaid : Prop := Claim7.holds Tryz.pinned (.plain (OpenSpec.ofChange tableKeepsSpec)) tableKeepsCard

/-- THE TIED CARD OF 'hairsbreadthlaw29.TableRuns'. -/
def tableRunsCard : Claim7 := { stood := { row := tableRunsRow, standIns := [], harness := (true, "317376ba58287407792ab1557a4485bf55b7dd5ceea78ce4eb1059b454019e53"), looks := true }, kinds := [], alts := [], laidByText := true, laidKinds := [.data, .data], laidTests := true, laidLooks := .later }
def TableRunsCardSaid : Prop := Claim7.holds Tryz.pinned (.plain (OpenSpec.ofChange tableRunsSpec)) tableRunsCard

/-- THE TIED CARD OF 'hairsbreadthlaw30.ScriptRuns'. -/
def scriptRunsCard : Claim7 := { stood := { row := scriptRunsRow, standIns := [], harness := (true, "317376ba58287407792ab1557a4485bf55b7dd5ceea78ce4eb1059b454019e53"), looks := true }, kinds := [], alts := [], laidByText := true, laidKinds := [.data, .data, .data, .data, .data, .data, .data, .pinned], laidTests := true, laidLooks := .later }
def ScriptRunsCardSaid : Prop := Claim7.holds Tryz.pinned (.plain (OpenSpec.ofChange scriptRunsSpec)) scriptRunsCard

/-- THE SECOND FORM's CARD OF 'hairsbreadthlaw23.RemAll'. -/
def remAllUptoCard : Claim7 := { stood := { row := remAllUptoRow, standIns := [], harness := (true, "317376ba58287407792ab1557a4485bf55b7dd5ceea78ce4eb1059b454019e53"), looks := true }, kinds := [], alts := [], laidByText := true, laidKinds := [.data], laidTests := true, laidLooks := .later }
def RemAllUptoCardSaid : Prop := Claim7.holds Tryz.pinned (.plain (OpenSpec.upto remAllSpec)) remAllUptoCard

/-- THE SECOND FORM's CARD OF 'hairsbreadthtop.TopCloser'. -/
def topCloserUptoCard : Claim7 := { stood := { row := topCloserUptoRow, standIns := [], harness := (true, "317376ba58287407792ab1557a4485bf55b7dd5ceea78ce4eb1059b454019e53"), looks := true }, kinds := [], alts := [], laidByText := true, laidKinds := [.data, .data, .data, .data, .data, .data, .data, .pinned], laidTests := true, laidLooks := .later }
def TopCloserUptoCardSaid : Prop := Claim7.holds Tryz.pinned (.plain (OpenSpec.upto topCloserSpec)) topCloserUptoCard

/-- THE SECOND FORM's CARD OF 'hairsbreadthtop.TopModel'. -/
def topModelUptoCard : Claim7 := { stood := { row := topModelUptoRow, standIns := [], harness := (true, "317376ba58287407792ab1557a4485bf55b7dd5ceea78ce4eb1059b454019e53"), looks := true }, kinds := [], alts := [], laidByText := true, laidKinds := [.data, .data, .data, .data, .data, .data, .data, .pinned], laidTests := true, laidLooks := .later }
def TopModelUptoCardSaid : Prop := Claim7.holds Tryz.pinned (.plain (OpenSpec.upto topModelSpec)) topModelUptoCard

/-- THE SECOND FORM's CARD OF 'hairsbreadthlaw29.TableKeeps'. -/
def tableKeepsUptoCard : Claim7 := { stood := { row := tableKeepsUptoRow, standIns := [], harness := (true, "317376ba58287407792ab1557a4485bf55b7dd5ceea78ce4eb1059b454019e53"), looks := true }, kinds := [], alts := [], laidByText := true, laidKinds := [.data, .data], laidTests := true, laidLooks := .later }
def TableKeepsUptoCardSaid : Prop := Claim7.holds Tryz.pinned (.plain (OpenSpec.upto tableKeepsSpec)) tableKeepsUptoCard

/-- THE SECOND FORM's CARD OF 'hairsbreadthlaw29.TableRuns'. -/
def tableRunsUptoCard : Claim7 := { stood := { row := tableRunsUptoRow, standIns := [], harness := (true, "317376ba58287407792ab1557a4485bf55b7dd5ceea78ce4eb1059b454019e53"), looks := true }, kinds := [], alts := [], laidByText := true, laidKinds := [.data, .data], laidTests := true, laidLooks := .later }
def TableRunsUptoCardSaid : Prop := Claim7.holds Tryz.pinned (.plain (OpenSpec.upto tableRunsSpec)) tableRunsUptoCard

/-- THE SECOND FORM's CARD OF 'hairsbreadthlaw30.ScriptRuns'. -/
def scriptRunsUptoCard : Claim7 := { stood := { row := scriptRunsUptoRow, standIns := [], harness := (true, "317376ba58287407792ab1557a4485bf55b7dd5ceea78ce4eb1059b454019e53"), looks := true }, kinds := [], alts := [], laidByText := true, laidKinds := [.data, .data, .data, .data, .data, .data, .data, .pinned], laidTests := true, laidLooks := .later }
def ScriptRunsUptoCardSaid : Prop := Claim7.holds Tryz.pinned (.plain (OpenSpec.upto scriptRunsSpec)) scriptRunsUptoCard
end Rows
end Go.Proofs.YtkbfmpomeejadaaGreatDoor

/-
  DERIVED. GIVEN WITH THE SEED: THE CARDS: each row of YtnfnebfioibndaaGreatDoorRows.lean that lists a variable, with what it lists TIED to the program's text (the seventh form; the later family's looks); each row that meets fmt, with fmt's text TOLD by the authors' own Lean function (tested against real Go, not proved from fmt's source: count such statements apart). THE CARD IS WHAT COUNTS. Prove the row's statement (the work); the ties are given (YtnfnebfioibndaaGreatDoorTie.lean); close each card by the builder's one call (the guide's Derived/Test/ToyasCard.lean, 'card_holds'). Laid BY PROGRAM, IN A SANDBOX (cutbox-door.mjs). By AI agents, Wed Nov 11 2026. No macro, syntax, notation, axiom, sorry.
-/
import Derived.Test.YtnfnebfioibndaaGreatDoorRows
import GoSem.ClaimSeven
namespace Go.Proofs.YtnfnebfioibndaaGreatDoor
namespace Rows

/-- THE TIED CARD OF 'stevedorelaw.CheckJudges'. -/
def checkJudgesCard : Claim7 := { stood := { row := checkJudgesRow, standIns := [], harness := (true, "fad0321ae4beae61605efadcb484f7b54b4db4fdd604584b59289bd1ad98bac6"), looks := true }, kinds := [], alts := [], laidByText := true, laidKinds := [.data, .handle, .data, .data, .data, .pinned], laidTests := true, laidLooks := .later }
def CheckJudgesCardSaid : Prop := Claim7.holds Tryz.pinned (.plain (OpenSpec.ofChange checkJudgesSpec)) checkJudgesCard

/-- THE TIED CARD OF 'stevedorelaw.CheckLines'. -/
def checkLinesCard : Claim7 := { stood := { row := checkLinesRow, standIns := [], harness := (true, "fad0321ae4beae61605efadcb484f7b54b4db4fdd604584b59289bd1ad98bac6"), looks := true }, kinds := [], alts := [], laidByText := true, laidKinds := [.data, .data, .data, .data, .pinned], laidTests := true, laidLooks := .later }
def CheckLinesCardSaid : Prop := Claim7.holds Tryz.pinned (.plain (OpenSpec.ofChange checkLinesSpec)) checkLinesCard

/-- THE SECOND FORM's CARD OF 'stevedorelaw.CheckJudges'. -/
def checkJudgesUptoCard : Claim7 := { stood := { row := checkJudgesUptoRow, standIns := [], harness := (true, "fad0321ae4beae61605efadcb484f7b54b4db4fdd604584b59289bd1ad98bac6"), looks := true }, kinds := [], alts := [], laidByText := true, laidKinds := [.data, .handle, .data, .data, .data, .pinned], laidTests := true, laidLooks := .later }
def CheckJudgesUptoCardSaid : Prop := Claim7.holds Tryz.pinned (.plain (OpenSpec.upto checkJudgesSpec)) checkJudgesUptoCard

/-- THE SECOND FORM's CARD OF 'stevedorelaw.CheckLines'. -/
def checkLinesUptoCard : Claim7 := { stood := { row := checkLinesUptoRow, standIns := [], harness := (true, "fad0321ae4beae61605efadcb484f7b54b4db4fdd604584b59289bd1ad98bac6"), looks := true }, kinds := [], alts := [], laidByText := true, laidKinds := [.data, .data, .data, .data, .pinned], laidTests := true, laidLooks := .later }
def CheckLinesUptoCardSaid : Prop := Claim7.holds Tryz.pinned (.plain (OpenSpec.upto checkLinesSpec)) checkLinesUptoCard
end Rows
end Go.Proofs.YtnfnebfioibndaaGreatDoor

/-
  DERIVED. GIVEN WITH THE SEED: THE CARDS: each row of YtnfnebfioibndaaDoorRows.lean that lists a variable, with what it lists TIED to the program's text (the seventh form; the later family's looks); each row that meets fmt, with fmt's text TOLD by the authors' own Lean function (tested against real Go, not proved from fmt's source: count such statements apart). THE CARD IS WHAT COUNTS. Prove the row's statement (the work); the ties are given (YtnfnebfioibndaaDoorTie.lean); close each card by the builder's one call (the guide's Derived/Test/ToyasCard.lean, 'card_holds'). Laid BY PROGRAM, IN A SANDBOX (cutbox-door.mjs). By AI agents, Wed Nov 11 2026. No macro, syntax, notation, axiom, sorry.
-/
import Derived.Test.YtnfnebfioibndaaDoorRows
import GoSem.ClaimSeven
namespace Go.Proofs.YtnfnebfioibndaaDoor
namespace Rows

/-- THE TIED CARD OF 'stevedorelaw.StatusNext'. -/
def statusNextCard : Claim7 := { stood := { row := statusNextRow, standIns := [], harness := (true, "8094deb51149055b3fb98376c2012f910a457f19da0b3403a3960b524cbf524c"), looks := true }, kinds := [], alts := [], laidByText := true, laidKinds := [.handle, .data, .data], laidTests := true, laidLooks := .later }
def StatusNextCardSaid : Prop := Claim7.holds Tryd.pinned (.plain (OpenSpec.ofChange statusNextSpec)) statusNextCard

/-- THE TIED CARD OF 'stevedorelaw.VersionCompares'. -/
def versionComparesCard : Claim7 := { stood := { row := versionComparesRow, standIns := [], harness := (true, "8094deb51149055b3fb98376c2012f910a457f19da0b3403a3960b524cbf524c"), looks := true }, kinds := [], alts := [], laidByText := true, laidKinds := [.data, .pinned], laidTests := true, laidLooks := .later }
def VersionComparesCardSaid : Prop := Claim7.holds Tryd.pinned (.plain (OpenSpec.ofChange versionComparesSpec)) versionComparesCard

/-- THE TIED CARD OF 'stevedorelaw.DependMeets'. -/
def dependMeetsCard : Claim7 := { stood := { row := dependMeetsRow, standIns := [], harness := (true, "8094deb51149055b3fb98376c2012f910a457f19da0b3403a3960b524cbf524c"), looks := true }, kinds := [], alts := [], laidByText := true, laidKinds := [.data, .pinned], laidTests := true, laidLooks := .later }
def DependMeetsCardSaid : Prop := Claim7.holds Tryd.pinned (.plain (OpenSpec.ofChange dependMeetsSpec)) dependMeetsCard

/-- THE TIED CARD OF 'stevedorelaw.OrderRings'. -/
def orderRingsCard : Claim7 := { stood := { row := orderRingsRow, standIns := [], harness := (true, "8094deb51149055b3fb98376c2012f910a457f19da0b3403a3960b524cbf524c"), looks := true }, kinds := [], alts := [], laidByText := true, laidKinds := [.handle, .data], laidTests := true, laidLooks := .later }
def OrderRingsCardSaid : Prop := Claim7.holds Tryd.pinned (.plain (OpenSpec.ofChange orderRingsSpec)) orderRingsCard

/-- THE TIED CARD OF 'stevedorelaw.OrderLines'. -/
def orderLinesCard : Claim7 := { stood := { row := orderLinesRow, standIns := [], harness := (true, "8094deb51149055b3fb98376c2012f910a457f19da0b3403a3960b524cbf524c"), looks := true }, kinds := [], alts := [], laidByText := true, laidKinds := [.handle, .data], laidTests := true, laidLooks := .later }
def OrderLinesCardSaid : Prop := Claim7.holds Tryd.pinned (.plain (OpenSpec.ofChange orderLinesSpec)) orderLinesCard

/-- THE SECOND FORM's CARD OF 'stevedorelaw.StatusNext'. -/
def statusNextUptoCard : Claim7 := { stood := { row := statusNextUptoRow, standIns := [], harness := (true, "8094deb51149055b3fb98376c2012f910a457f19da0b3403a3960b524cbf524c"), looks := true }, kinds := [], alts := [], laidByText := true, laidKinds := [.handle, .data, .data], laidTests := true, laidLooks := .later }
def StatusNextUptoCardSaid : Prop := Claim7.holds Tryd.pinned (.plain (OpenSpec.upto statusNextSpec)) statusNextUptoCard

/-- THE SECOND FORM's CARD OF 'stevedorelaw.VersionCompares'. -/
def versionComparesUptoCard : Claim7 := { stood := { row := versionComparesUptoRow, standIns := [], harness := (true, "8094deb51149055b3fb98376c2012f910a457f19da0b3403a3960b524cbf524c"), looks := true }, kinds := [], alts := [], laidByText := true, laidKinds := [.data, .pinned], laidTests := true, laidLooks := .later }
def VersionComparesUptoCardSaid : Prop := Claim7.holds Tryd.pinned (.plain (OpenSpec.upto versionComparesSpec)) versionComparesUptoCard

/-- THE SECOND FORM's CARD OF 'stevedorelaw.DependMeets'. -/
def dependMeetsUptoCard : Claim7 := { stood := { row := dependMeetsUptoRow, standIns := [], harness := (true, "8094deb51149055b3fb98376c2012f910a457f19da0b3403a3960b524cbf524c"), looks := true }, kinds := [], alts := [], laidByText := true, laidKinds := [.data, .pinned], laidTests := true, laidLooks := .later }
def DependMeetsUptoCardSaid : Prop := Claim7.holds Tryd.pinned (.plain (OpenSpec.upto dependMeetsSpec)) dependMeetsUptoCard

/-- THE SECOND FORM's CARD OF 'stevedorelaw.OrderRings'. -/
def orderRingsUptoCard : Claim7 := { stood := { row := orderRingsUptoRow, standIns := [], harness := (true, "8094deb51149055b3fb98376c2012f910a457f19da0b3403a3960b524cbf524c"), looks := true }, kinds := [], alts := [], laidByText := true, laidKinds := [.handle, .data], laidTests := true, laidLooks := .later }
def OrderRingsUptoCardSaid : Prop := Claim7.holds Tryd.pinned (.plain (OpenSpec.upto orderRingsSpec)) orderRingsUptoCard

/-- THE SECOND FORM's CARD OF 'stevedorelaw.OrderLines'. -/
def orderLinesUptoCard : Claim7 := { stood := { row := orderLinesUptoRow, standIns := [], harness := (true, "8094deb51149055b3fb98376c2012f910a457f19da0b3403a3960b524cbf524c"), looks := true }, kinds := [], alts := [], laidByText := true, laidKinds := [.handle, .data], laidTests := true, laidLooks := .later }
def OrderLinesUptoCardSaid : Prop := Claim7.holds Tryd.pinned (.plain (OpenSpec.upto orderLinesSpec)) orderLinesUptoCard
end Rows
end Go.Proofs.YtnfnebfioibndaaDoor

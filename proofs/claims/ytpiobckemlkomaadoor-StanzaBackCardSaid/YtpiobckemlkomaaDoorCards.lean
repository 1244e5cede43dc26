/-
  DERIVED. GIVEN WITH THE SEED: THE CARDS: each row of YtpiobckemlkomaaDoorRows.lean that lists a variable, with what it lists TIED to the program's text (the seventh form; the later family's looks); each row that meets fmt, with fmt's text TOLD by the authors' own Lean function (tested against real Go, not proved from fmt's source: count such statements apart). THE CARD IS WHAT COUNTS. Prove the row's statement (the work); the ties are given (YtpiobckemlkomaaDoorTie.lean); close each card by the builder's one call (the guide's Derived/Test/ToyasCard.lean, 'card_holds'). Laid BY PROGRAM, IN A SANDBOX (cutbox-door.mjs). By AI agents, Wed Nov 11 2026. No macro, syntax, notation, axiom, sorry.
-/
import Derived.Test.YtpiobckemlkomaaDoorRows
import GoSem.ClaimSeven
namespace Go.Proofs.YtpiobckemlkomaaDoor
namespace Rows

/-- THE TIED CARD OF 'stevedorelaw.StanzaParses'. -/
def stanzaParsesCard : Claim7 := { stood := { row := stanzaParsesRow, standIns := [], harness := (true, "80e0b8920c56f663bab7738ff4db8db19a06bd07a8931ebfbe612e8da90d39bd"), looks := true }, kinds := [], alts := [], laidByText := true, laidKinds := [.data, .handle, .data, .pinned], laidTests := true, laidLooks := .later }
def StanzaParsesCardSaid : Prop := Claim7.holds Tryd.pinned (.plain (OpenSpec.ofChange stanzaParsesSpec)) stanzaParsesCard

/-- THE TIED CARD OF 'stevedorelaw.StanzaPrints'. -/
def stanzaPrintsCard : Claim7 := { stood := { row := stanzaPrintsRow, standIns := [], harness := (true, "80e0b8920c56f663bab7738ff4db8db19a06bd07a8931ebfbe612e8da90d39bd"), looks := true }, kinds := [], alts := [], laidByText := true, laidKinds := [.data, .handle, .pinned], laidTests := true, laidLooks := .later }
def StanzaPrintsCardSaid : Prop := Claim7.holds Tryd.pinned (.plain (OpenSpec.ofChange stanzaPrintsSpec)) stanzaPrintsCard

/-- THE TIED CARD OF 'stevedorekeep.StanzaBack'. -/
def stanzaBackCard : Claim7 := { stood := { row := stanzaBackRow, standIns := [], harness := (true, "80e0b8920c56f663bab7738ff4db8db19a06bd07a8931ebfbe612e8da90d39bd"), looks := true }, kinds := [], alts := [], laidByText := true, laidKinds := [.data, .pinned, .pinned], laidTests := true, laidLooks := .later }
def StanzaBackCardSaid : Prop := Claim7.holds Tryd.pinned (.plain (OpenSpec.ofChange stanzaBackSpec)) stanzaBackCard

/-- THE SECOND FORM's CARD OF 'stevedorelaw.StanzaParses'. -/
def stanzaParsesUptoCard : Claim7 := { stood := { row := stanzaParsesUptoRow, standIns := [], harness := (true, "80e0b8920c56f663bab7738ff4db8db19a06bd07a8931ebfbe612e8da90d39bd"), looks := true }, kinds := [], alts := [], laidByText := true, laidKinds := [.data, .handle, .data, .pinned], laidTests := true, laidLooks := .later }
def StanzaParsesUptoCardSaid : Prop := Claim7.holds Tryd.pinned (.plain (OpenSpec.upto stanzaParsesSpec)) stanzaParsesUptoCard

/-- THE SECOND FORM's CARD OF 'stevedorelaw.StanzaPrints'. -/
def stanzaPrintsUptoCard : Claim7 := { stood := { row := stanzaPrintsUptoRow, standIns := [], harness := (true, "80e0b8920c56f663bab7738ff4db8db19a06bd07a8931ebfbe612e8da90d39bd"), looks := true }, kinds := [], alts := [], laidByText := true, laidKinds := [.data, .handle, .pinned], laidTests := true, laidLooks := .later }
def StanzaPrintsUptoCardSaid : Prop := Claim7.holds Tryd.pinned (.plain (OpenSpec.upto stanzaPrintsSpec)) stanzaPrintsUptoCard

/-- THE SECOND FORM's CARD OF 'stevedorekeep.StanzaBack'. -/
def stanzaBackUptoCard : Claim7 := { stood := { row := stanzaBackUptoRow, standIns := [], harness := (true, "80e0b8920c56f663bab7738ff4db8db19a06bd07a8931ebfbe612e8da90d39bd"), looks := true }, kinds := [], alts := [], laidByText := true, laidKinds := [.data, .pinned, .pinned], laidTests := true, laidLooks := .later }
def StanzaBackUptoCardSaid : Prop := Claim7.holds Tryd.pinned (.plain (OpenSpec.upto stanzaBackSpec)) stanzaBackUptoCard
end Rows
end Go.Proofs.YtpiobckemlkomaaDoor

/-
  DERIVED. GIVEN WITH THE SEED: THE CARDS: each row of YtkgoachgmdkmjaaGreatDoorRows.lean that lists a variable, with what it lists TIED to the program's text (the seventh form; the later family's looks); each row that meets fmt, with fmt's text TOLD by the authors' own Lean function (tested against real Go, not proved from fmt's source: count such statements apart). THE CARD IS WHAT COUNTS. Prove the row's statement (the work); the ties are given (YtkgoachgmdkmjaaGreatDoorTie.lean); close each card by the builder's one call (the guide's Derived/Test/ToyasCard.lean, 'card_holds'). Laid BY PROGRAM, IN A SANDBOX (cutbox-door.mjs). By AI agents, Wed Nov 11 2026. No macro, syntax, notation, axiom, sorry.
-/
import Derived.Test.YtkgoachgmdkmjaaGreatDoorRows
import GoSem.ClaimSeven
namespace Go.Proofs.YtkgoachgmdkmjaaGreatDoor
namespace Rows

/-- THE TIED CARD OF 'estuarylaw20.NodesNil'. -/
def nodesNilCard : Claim7 := { stood := { row := nodesNilRow, standIns := [], harness := (true, "084421648b01bc2f5396c00038c9b64cbb9ef3ce1e78d6963c053db66c4ab1e4"), looks := true }, kinds := [], alts := [], laidByText := true, laidKinds := [.data, .pinned], laidTests := true, laidLooks := .later }
def NodesNilCardSaid : Prop := Claim7.holds Tryz.pinned (.plain (OpenSpec.ofChange nodesNilSpec)) nodesNilCard

/-- THE TIED CARD OF 'estuarylaw26.FetchNil'. -/
def fetchNilCard : Claim7 := { stood := { row := fetchNilRow, standIns := [], harness := (true, "084421648b01bc2f5396c00038c9b64cbb9ef3ce1e78d6963c053db66c4ab1e4"), looks := true }, kinds := [], alts := [], laidByText := true, laidKinds := [.data, .pinned], laidTests := true, laidLooks := .later }
def FetchNilCardSaid : Prop := Claim7.holds Tryz.pinned (.plain (OpenSpec.ofChange fetchNilSpec)) fetchNilCard

/-- THE SECOND FORM's CARD OF 'estuarylaw20.NodesNil'. -/
def nodesNilUptoCard : Claim7 := { stood := { row := nodesNilUptoRow, standIns := [], harness := (true, "084421648b01bc2f5396c00038c9b64cbb9ef3ce1e78d6963c053db66c4ab1e4"), looks := true }, kinds := [], alts := [], laidByText := true, laidKinds := [.data, .pinned], laidTests := true, laidLooks := .later }
def NodesNilUptoCardSaid : Prop := Claim7.holds Tryz.pinned (.plain (OpenSpec.upto nodesNilSpec)) nodesNilUptoCard

/-- THE SECOND FORM's CARD OF 'estuarylaw26.FetchNil'. -/
def fetchNilUptoCard : Claim7 := { stood := { row := fetchNilUptoRow, standIns := [], harness := (true, "084421648b01bc2f5396c00038c9b64cbb9ef3ce1e78d6963c053db66c4ab1e4"), looks := true }, kinds := [], alts := [], laidByText := true, laidKinds := [.data, .pinned], laidTests := true, laidLooks := .later }
def FetchNilUptoCardSaid : Prop := Claim7.holds Tryz.pinned (.plain (OpenSpec.upto fetchNilSpec)) fetchNilUptoCard
end Rows
end Go.Proofs.YtkgoachgmdkmjaaGreatDoor

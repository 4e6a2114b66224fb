/-
  DERIVED. GIVEN WITH THE SEED: THE CARDS: each row of YthjoaempffkanaaGreatDoorRows.lean that lists a variable, with what it lists TIED to the program's text (the seventh form; the later family's looks); each row that meets fmt, with fmt's text TOLD by the authors' own Lean function (tested against real Go, not proved from fmt's source: count such statements apart). THE CARD IS WHAT COUNTS. Prove the row's statement (the work); the ties are given (YthjoaempffkanaaGreatDoorTie.lean); close each card by the builder's one call (the guide's Derived/Test/ToyasCard.lean, 'card_holds'). Laid BY PROGRAM, IN A SANDBOX (cutbox-door.mjs). By AI agents, Wed Nov 11 2026. No macro, syntax, notation, axiom, sorry.
-/
import Derived.Test.YthjoaempffkanaaGreatDoorRows
import GoSem.ClaimSeven
namespace Go.Proofs.YthjoaempffkanaaGreatDoor
namespace Rows

/-- THE TIED CARD OF 'estuarylaw24.SweepNil'. -/
def sweepNilCard : Claim7 := { stood := { row := sweepNilRow, standIns := [], harness := (true, "f29f86f0dec358f1dc55ea3d35bcf326f8d8ca3a2e89201b46f9ac1194f1252c"), looks := true }, kinds := [], alts := [], laidByText := true, laidKinds := [.data, .data, .data, .data, .pinned], laidTests := true, laidLooks := .later }
def SweepNilCardSaid : Prop := Claim7.holds Tryz.pinned (.plain (OpenSpec.ofChange sweepNilSpec)) sweepNilCard

/-- THE SECOND FORM's CARD OF 'estuarylaw24.SweepNil'. -/
def sweepNilUptoCard : Claim7 := { stood := { row := sweepNilUptoRow, standIns := [], harness := (true, "f29f86f0dec358f1dc55ea3d35bcf326f8d8ca3a2e89201b46f9ac1194f1252c"), looks := true }, kinds := [], alts := [], laidByText := true, laidKinds := [.data, .data, .data, .data, .pinned], laidTests := true, laidLooks := .later }
def SweepNilUptoCardSaid : Prop := Claim7.holds Tryz.pinned (.plain (OpenSpec.upto sweepNilSpec)) sweepNilUptoCard
end Rows
end Go.Proofs.YthjoaempffkanaaGreatDoor

/-
  DERIVED. GIVEN WITH THE SEED: THE CARDS: each row of YtpbhlpajhdlemaaGreatDoorRows.lean that lists a variable, with what it lists TIED to the program's text (the seventh form; the later family's looks); each row that meets fmt, with fmt's text TOLD by the authors' own Lean function (tested against real Go, not proved from fmt's source: count such statements apart). THE CARD IS WHAT COUNTS. Prove the row's statement (the work); the ties are given (YtpbhlpajhdlemaaGreatDoorTie.lean); close each card by the builder's one call (the guide's Derived/Test/ToyasCard.lean, 'card_holds'). Laid BY PROGRAM, IN A SANDBOX (cutbox-door.mjs). By AI agents, Wed Nov 11 2026. No macro, syntax, notation, axiom, sorry.
-/
import Derived.Test.YtpbhlpajhdlemaaGreatDoorRows
import GoSem.ClaimSeven
namespace Go.Proofs.YtpbhlpajhdlemaaGreatDoor
namespace Rows

/-- THE TIED CARD OF 'estuarylaw18.BaseNil'. -/
def baseNilCard : Claim7 := { stood := { row := baseNilRow, standIns := [], harness := (true, "44570ccc7193fdf71e01915d78638877d79987c31b1ae30bd98b08b81a9d728e"), looks := true }, kinds := [], alts := [], laidByText := true, laidKinds := [.data, .data, .data, .data, .pinned], laidTests := true, laidLooks := .later }
def BaseNilCardSaid : Prop := Claim7.holds Tryz.pinned (.plain (OpenSpec.ofChange baseNilSpec)) baseNilCard

/-- THE SECOND FORM's CARD OF 'estuarylaw18.BaseNil'. -/
def baseNilUptoCard : Claim7 := { stood := { row := baseNilUptoRow, standIns := [], harness := (true, "44570ccc7193fdf71e01915d78638877d79987c31b1ae30bd98b08b81a9d728e"), looks := true }, kinds := [], alts := [], laidByText := true, laidKinds := [.data, .data, .data, .data, .pinned], laidTests := true, laidLooks := .later }
def BaseNilUptoCardSaid : Prop := Claim7.holds Tryz.pinned (.plain (OpenSpec.upto baseNilSpec)) baseNilUptoCard
end Rows
end Go.Proofs.YtpbhlpajhdlemaaGreatDoor

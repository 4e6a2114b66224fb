/-
  DERIVED. GIVEN WITH THE SEED: THE CARDS: each row of YtpelgmhdjfjigaaGreatDoorRows.lean that lists a variable, with what it lists TIED to the program's text (the seventh form; the later family's looks); each row that meets fmt, with fmt's text TOLD by the authors' own Lean function (tested against real Go, not proved from fmt's source: count such statements apart). THE CARD IS WHAT COUNTS. Prove the row's statement (the work); the ties are given (YtpelgmhdjfjigaaGreatDoorTie.lean); close each card by the builder's one call (the guide's Derived/Test/ToyasCard.lean, 'card_holds'). Laid BY PROGRAM, IN A SANDBOX (cutbox-door.mjs). By AI agents, Wed Nov 11 2026. No macro, syntax, notation, axiom, sorry.
-/
import Derived.Test.YtpelgmhdjfjigaaGreatDoorRows
import GoSem.ClaimSeven
namespace Go.Proofs.YtpelgmhdjfjigaaGreatDoor
namespace Rows

/-- THE TIED CARD OF 'estuarylaw22.PacksNil'. -/
def packsNilCard : Claim7 := { stood := { row := packsNilRow, standIns := [], harness := (true, "19b04acc6d88f46cdabe7d8a06eb1eeae33610da969e6f359a057bc46ebee6cb"), looks := true }, kinds := [], alts := [], laidByText := true, laidKinds := [.data, .pinned], laidTests := true, laidLooks := .later }
def PacksNilCardSaid : Prop := Claim7.holds Tryz.pinned (.plain (OpenSpec.ofChange packsNilSpec)) packsNilCard

/-- THE SECOND FORM's CARD OF 'estuarylaw22.PacksNil'. -/
def packsNilUptoCard : Claim7 := { stood := { row := packsNilUptoRow, standIns := [], harness := (true, "19b04acc6d88f46cdabe7d8a06eb1eeae33610da969e6f359a057bc46ebee6cb"), looks := true }, kinds := [], alts := [], laidByText := true, laidKinds := [.data, .pinned], laidTests := true, laidLooks := .later }
def PacksNilUptoCardSaid : Prop := Claim7.holds Tryz.pinned (.plain (OpenSpec.upto packsNilSpec)) packsNilUptoCard
end Rows
end Go.Proofs.YtpelgmhdjfjigaaGreatDoor
